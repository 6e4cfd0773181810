
/-
  Rows made less by one another, plainly: what they span stays. No program in sight.
  Elimination step by step, plainly: the determinant's state; the reduced rows' state. No program in sight.
  Matrices of the call's own: rows that were made one by one; slices.Clone by hand.
-/
import Derived.Test.YtdcdhdlklppalaaPk15
import Derived.Test.YtdcdhdlklppalaaPk50
import Derived.Test.YtdcdhdlklppalaaPk14
import Derived.Test.YtdcdhdlklppalaaPk05
import Derived.Test.YtdcdhdlklppalaaPk06
import Derived.Laws.OwnMore
import Derived.Deep.AppendLies
import Derived.Deep.Onto
namespace Go.Proofs.Ytdcdhdlklppalaa
set_option linter.unusedVariables false

theorem isum_reidx {f : Nat → Int} {σ : Nat → Nat} {n : Nat} (hσ : ∀ s, s < n → σ s < n ∧ σ (σ s) = s) : isum (fun i => f (σ i)) n = isum f n := by
  have e1 : isum (fun i => f (σ i)) n = isum (fun i => isum (fun k => if k = σ i then f k else 0) n) n := isum_congr (fun i hi => (isum_pick (g := f) (hσ i hi).1).symm)
  rw [e1, isum_swap]
  refine isum_congr (fun k hk => ?_)
  have : isum (fun i => if k = σ i then f k else 0) n = isum (fun i => if i = σ k then f k else 0) n := isum_congr (fun i hi => by
    by_cases c : k = σ i
    · have : i = σ k := by rw [c, (hσ i hi).2]
      rw [if_pos c, if_pos this]
    · have : ¬ i = σ k := fun e => c (by rw [e, (hσ k hk).2])
      rw [if_neg c, if_neg this])
  rw [this, isum_pick (g := fun _ => f k) (hσ k hk).1]
theorem swp_swp (a b k : Nat) : swp a b (swp a b k) = k := by
  unfold swp
  by_cases c1 : k = a
  · subst c1
    rw [if_pos rfl]
    by_cases c2 : b = k
    · rw [if_pos c2]; exact c2
    · rw [if_neg c2, if_pos rfl]
  · rw [if_neg c1]
    by_cases c2 : k = b
    · subst c2; rw [if_pos rfl, if_pos rfl]
    · rw [if_neg c2, if_neg c1, if_neg c2]
theorem swp_lt {a b k n : Nat} (ha : a < n) (hb : b < n) (hk : k < n) : swp a b k < n := by
  unfold swp
  split
  · exact hb
  · split
    · exact ha
    · exact hk

/-- no row hangs on others -/
def Indep (p C N : Nat) (M : Nat → Nat → Int) : Prop := ∀ a : Nat → Int, (∀ j, j < C → Cg p (isum (fun i => a i * M i j) N) 0) → ∀ i, i < N → Cg p (a i) 0
/-- the same rows, made of one another -/
structure SpEq (p C N : Nat) (M M' : Nat → Nat → Int) : Prop where
  fwd : ∀ i, i < N → InSp p C N M (M' i)
  bwd : ∀ i, i < N → InSp p C N M' (M i)
  ind : Indep p C N M → Indep p C N M'
section
variable {p C N : Nat} {M M' M2 : Nat → Nat → Int}
theorem SpEq.refl (M : Nat → Nat → Int) : SpEq p C N M M := ⟨fun i hi => InSp.mem hi, fun i hi => InSp.mem hi, id⟩
theorem SpEq.trans (h : SpEq p C N M M') (g : SpEq p C N M' M2) : SpEq p C N M M2 :=
  ⟨fun i hi => (g.fwd i hi).trans h.fwd, fun i hi => (h.bwd i hi).trans g.bwd, fun x => g.ind (h.ind x)⟩
theorem SpEq.cg (e : ∀ i j, i < N → j < C → Cg p (M' i j) (M i j)) : SpEq p C N M M' where
  fwd := fun i hi => (InSp.mem hi).cg (fun j hj => e i j hi hj)
  bwd := fun i hi => (InSp.mem hi).cg (fun j hj => (e i j hi hj).symm)
  ind := fun h a ha i hi => h a (fun j hj => (isum_cg (fun k hk => (Cg.refl (a k)).mul (e k j hk hj).symm)).trans (ha j hj)) i hi
theorem SpEq.swap {a b : Nat} (ha : a < N) (hb : b < N) : SpEq p C N M (fun i => M (swp a b i)) where
  fwd := fun i hi => InSp.mem (swp_lt ha hb hi)
  bwd := fun i hi => by
    have := InSp.mem (p := p) (C := C) (R := fun i => M (swp a b i)) (swp_lt ha hb hi)
    simp only [swp_swp] at this
    exact this
  ind := fun h c hc i hi => by
    have := h (fun k => c (swp a b k)) (fun j hj => by
      have e := isum_reidx (f := fun k => c (swp a b k) * M k j) (σ := swp a b) (n := N) (fun s hs => ⟨swp_lt ha hb hs, swp_swp a b s⟩)
      simp only [swp_swp] at e
      rw [← e]
      exact hc j hj) (swp a b i) (swp_lt ha hb hi)
    simp only [swp_swp] at this
    exact this
/-- one row, a unit times itself, and more of another -/
theorem SpEq.more (hp : PrimeP p) {r q : Nat} (hr : r < N) (hq : q < N) (hqr : q ≠ r) {u t : Int} (hu : ¬ Cg p u 0) (he : ∀ i j, i < N → j < C → i ≠ r → Cg p (M' i j) (M i j)) (h : ∀ j, j < C → Cg p (M' r j) (u * M r j + t * M q j)) : SpEq p C N M M' := by
  obtain ⟨u', hu'⟩ := Cg.inv hp hu
  refine ⟨fun i hi => ?_, fun i hi => ?_, fun hI a ha => ?_⟩
  · by_cases c : i = r
    · subst c
      exact (((InSp.mem hi).smul u).add ((InSp.mem hq).smul t)).cg (fun j hj => h j hj)
    · exact (InSp.mem hi).cg (fun j hj => he i j hi hj c)
  · by_cases c : i = r
    · subst c
      refine (((InSp.mem hi).add ((InSp.mem hq).smul (-t))).smul u').cg (R := M') (fun j hj => ?_)
      have h1 := h j hj
      have h2 := he q j hq hj hqr
      have h3 : Cg p (u' * (M' i j + -t * M' q j)) (u' * ((u * M i j + t * M q j) + -t * M q j)) := (Cg.refl u').mul (h1.add ((Cg.refl _).mul h2))
      rw [show u' * ((u * M i j + t * M q j) + -t * M q j) = (u * u') * M i j by grind] at h3
      have h4 := hu'.mul (Cg.refl (M i j))
      rw [Int.one_mul] at h4
      exact (h3.trans h4).symm
    · exact (InSp.mem hi).cg (fun j hj => (he i j hi hj c).symm)
  · have key := hI (fun i => (if i = r then u * a r else a i) + (if i = q then t * a r else 0)) (fun j hj => by
      refine Cg.trans ?_ (ha j hj)
      have e1 : Cg p (isum (fun i => a i * M' i j) N) (isum (fun i => a i * (if i = r then u * M r j + t * M q j else M i j)) N) := isum_cg (fun i hi => by
        by_cases c : i = r
        · subst c; rw [if_pos rfl]; exact (Cg.refl _).mul (h j hj)
        · rw [if_neg c]; exact (Cg.refl _).mul (he i j hi hj c))
      refine Cg.trans (Cg.of_eq ?_) e1.symm
      have e2 : isum (fun i => ((if i = r then u * a r else a i) + (if i = q then t * a r else 0)) * M i j) N = isum (fun i => (if i = r then u * a r else a i) * M i j) N + isum (fun i => if i = q then t * a r * M i j else 0) N := by
        rw [← isum_add]
        exact isum_congr (fun i _ => by split <;> split <;> grind)
      have e3 : isum (fun i => a i * (if i = r then u * M r j + t * M q j else M i j)) N = isum (fun i => (if i = r then u * a r else a i) * M i j) N + isum (fun i => if i = r then a i * (t * M q j) else 0) N := by
        rw [← isum_add]
        refine isum_congr (fun i _ => ?_)
        by_cases c : i = r
        · subst c; rw [if_pos rfl, if_pos rfl, if_pos rfl]; grind
        · rw [if_neg c, if_neg c, if_neg c]; omega
      rw [e2, e3, isum_pick (g := fun i => t * a r * M i j) hq, isum_pick (g := fun i => a i * (t * M q j)) hr]
      grind)
    have h1 := key r hr
    rw [if_pos rfl, if_neg (fun e => hqr e.symm)] at h1
    rw [Int.add_zero, Int.mul_comm] at h1
    have ar := Cg.cancel hp h1 hu
    intro i hi
    by_cases c : i = r
    · rw [c]; exact ar
    · have h2 := key i hi
      rw [if_neg c] at h2
      by_cases d : i = q
      · rw [if_pos d] at h2
        have h3 := h2.sub ((Cg.refl t).mul ar)
        rwa [show a i + t * a r - t * a r = a i by omega, show (0 : Int) - t * 0 = 0 by omega] at h3
      · rw [if_neg d, Int.add_zero] at h2
        exact h2
/-- one row, a unit times itself -/
theorem SpEq.scale (hp : PrimeP p) {r : Nat} (hr : r < N) {u : Int} (hu : ¬ Cg p u 0) (he : ∀ i j, i < N → j < C → i ≠ r → Cg p (M' i j) (M i j)) (h : ∀ j, j < C → Cg p (M' r j) (u * M r j)) : SpEq p C N M M' := by
  obtain ⟨u', hu'⟩ := Cg.inv hp hu
  refine ⟨fun i hi => ?_, fun i hi => ?_, fun hI a ha => ?_⟩
  · by_cases c : i = r
    · subst c
      exact ((InSp.mem hi).smul u).cg (fun j hj => h j hj)
    · exact (InSp.mem hi).cg (fun j hj => he i j hi hj c)
  · by_cases c : i = r
    · subst c
      refine ((InSp.mem hi).smul u').cg (R := M') (fun j hj => ?_)
      have h3 : Cg p (u' * M' i j) (u' * (u * M i j)) := (Cg.refl u').mul (h j hj)
      rw [show u' * (u * M i j) = (u * u') * M i j by grind] at h3
      have h4 := hu'.mul (Cg.refl (M i j))
      rw [Int.one_mul] at h4
      exact (h3.trans h4).symm
    · exact (InSp.mem hi).cg (fun j hj => (he i j hi hj c).symm)
  · have key := hI (fun i => if i = r then u * a r else a i) (fun j hj => by
      refine Cg.trans ?_ (ha j hj)
      refine isum_cg (fun i hi => ?_)
      by_cases c : i = r
      · subst c
        rw [if_pos rfl]
        have := (Cg.refl (a i)).mul (h j hj).symm
        rwa [show a i * (u * M i j) = u * a i * M i j by grind] at this
      · rw [if_neg c]; exact (Cg.refl _).mul (he i j hi hj c).symm)
    have h1 := key r hr
    rw [if_pos rfl, Int.mul_comm] at h1
    have ar := Cg.cancel hp h1 hu
    intro i hi
    by_cases c : i = r
    · rw [c]; exact ar
    · have h2 := key i hi
      rwa [if_neg c] at h2
theorem Indep.row (h : Indep p C N M) (hp : PrimeP p) {r : Nat} (hr : r < N) (hz : ∀ j, j < C → Cg p (M r j) 0) : False := by
  have h1 := h (fun i => if i = r then 1 else 0) (fun j hj => by
    have : isum (fun i => (if i = r then 1 else 0) * M i j) N = M r j := by
      rw [show isum (fun i => (if i = r then (1 : Int) else 0) * M i j) N = isum (fun i => if i = r then M i j else 0) N from isum_congr (fun i _ => by split <;> omega), isum_pick (g := fun i => M i j) hr]
    rw [this]; exact hz j hj) r hr
  rw [if_pos rfl, Cg.zero_iff] at h1
  have := hp.le
  rw [Int.emod_eq_of_lt (by omega) (by omega)] at h1
  omega
end

end Go.Proofs.Ytdcdhdlklppalaa

namespace Go.Proofs.Ytdcdhdlklppalaa
set_option linter.unusedVariables false

/-- numbers below p -/
def Small (p N C : Nat) (M : Nat → Nat → Int) : Prop := ∀ i j, i < N → j < C → 0 ≤ M i j ∧ M i j < p
/-- row r with t times row q added, modulo p, at the places from lo to hi -/
def addT (p : Nat) (M : Nat → Nat → Int) (r q : Nat) (t : Int) (lo hi : Nat) : Nat → Nat → Int := fun i j => if i = r ∧ lo ≤ j ∧ j < hi then (M r j + t * M q j) % (p : Int) else M i j
theorem addT_start (p : Nat) (M : Nat → Nat → Int) (r q : Nat) (t : Int) (lo : Nat) : addT p M r q t lo lo = M := by
  funext i j; unfold addT; rw [if_neg (by omega)]
theorem addT_step (p : Nat) (M : Nat → Nat → Int) (r q : Nat) (t : Int) (lo hi : Nat) (h : lo ≤ hi) : setM (addT p M r q t lo hi) r hi ((M r hi + t * M q hi) % (p : Int)) = addT p M r q t lo (hi + 1) := by
  funext i j
  unfold setM addT
  by_cases c : i = r ∧ j = hi
  · obtain ⟨rfl, rfl⟩ := c
    rw [if_pos ⟨rfl, rfl⟩, if_pos ⟨rfl, by omega, by omega⟩]
  · rw [if_neg c]
    by_cases d : i = r ∧ lo ≤ j ∧ j < hi
    · rw [if_pos d, if_pos ⟨d.1, d.2.1, by omega⟩]
    · rw [if_neg d, if_neg (fun e => by
        by_cases f : j = hi
        · exact c ⟨e.1, f⟩
        · exact d ⟨e.1, e.2.1, by omega⟩)]
theorem addT_other {p : Nat} {M : Nat → Nat → Int} {r q : Nat} {t : Int} {lo hi i : Nat} (h : i ≠ r) (j : Nat) : addT p M r q t lo hi i j = M i j := by unfold addT; rw [if_neg (fun e => h e.1)]
theorem addT_at {p : Nat} {M : Nat → Nat → Int} {r q : Nat} {t : Int} {lo hi j : Nat} (h1 : lo ≤ j) (h2 : j < hi) : addT p M r q t lo hi r j = (M r j + t * M q j) % (p : Int) := by unfold addT; rw [if_pos ⟨rfl, h1, h2⟩]
theorem addT_past {p : Nat} {M : Nat → Nat → Int} {r q : Nat} {t : Int} {lo hi j : Nat} (h : ¬ (lo ≤ j ∧ j < hi)) : addT p M r q t lo hi r j = M r j := by unfold addT; rw [if_neg (fun e => h e.2)]
theorem mod_small (p : Nat) (hp : 0 < p) (a : Int) : 0 ≤ a % (p : Int) ∧ a % (p : Int) < p := ⟨Int.emod_nonneg _ (by omega), Int.emod_lt_of_pos _ (by omega)⟩
theorem Small.add {p N C : Nat} {M : Nat → Nat → Int} (hp : 0 < p) (h : Small p N C M) (r q : Nat) (t : Int) (lo hi : Nat) : Small p N C (addT p M r q t lo hi) := fun i j hi' hj => by
  unfold addT
  split
  · exact mod_small p hp _
  · exact h i j hi' hj
theorem Small.swap {p N C : Nat} {M : Nat → Nat → Int} (h : Small p N C M) {a b : Nat} (ha : a < N) (hb : b < N) : Small p N C (fun i => M (swp a b i)) := fun i j hi hj => h _ j (swp_lt ha hb hi) hj
/-- row r times f, modulo p, at the places ahead of hi -/
def sclT (p : Nat) (M : Nat → Nat → Int) (r : Nat) (f : Int) (hi : Nat) : Nat → Nat → Int := fun i j => if i = r ∧ j < hi then (M r j * f) % (p : Int) else M i j
theorem sclT_start (p : Nat) (M : Nat → Nat → Int) (r : Nat) (f : Int) : sclT p M r f 0 = M := by
  funext i j; unfold sclT; rw [if_neg (by omega)]
theorem sclT_step (p : Nat) (M : Nat → Nat → Int) (r : Nat) (f : Int) (hi : Nat) : setM (sclT p M r f hi) r hi ((M r hi * f) % (p : Int)) = sclT p M r f (hi + 1) := by
  funext i j
  unfold setM sclT
  by_cases c : i = r ∧ j = hi
  · obtain ⟨rfl, rfl⟩ := c
    rw [if_pos ⟨rfl, rfl⟩, if_pos ⟨rfl, by omega⟩]
  · rw [if_neg c]
    by_cases d : i = r ∧ j < hi
    · rw [if_pos d, if_pos ⟨d.1, by omega⟩]
    · rw [if_neg d, if_neg (fun e => by
        by_cases f : j = hi
        · exact c ⟨e.1, f⟩
        · exact d ⟨e.1, by omega⟩)]
theorem sclT_here (p : Nat) (M : Nat → Nat → Int) (r : Nat) (f : Int) (hi : Nat) : sclT p M r f hi r hi = M r hi := by unfold sclT; rw [if_neg (by omega)]
theorem Small.scl {p N C : Nat} {M : Nat → Nat → Int} (hp : 0 < p) (h : Small p N C M) (r : Nat) (f : Int) (hi : Nat) : Small p N C (sclT p M r f hi) := fun i j hi' hj => by
  unfold sclT
  split
  · exact mod_small p hp _
  · exact h i j hi' hj
/-- what is left at the pivot's place -/
theorem elim_zero {p : Nat} (hp : 0 < p) {x y f t : Int} (hf : (y * f) % (p : Int) = 1 % (p : Int)) (ht : t = x * f % (p : Int)) : (x + (p - t) * y) % (p : Int) = 0 := by
  have h1 : Cg p t (x * f) := by rw [ht]; exact Cg.mod _
  have h2 : Cg p (x + (p - t) * y) (x + (0 - x * f) * y) := (Cg.refl x).add ((Cg.p_zero.sub h1).mul (Cg.refl y))
  have h3 : Cg p (y * f) 1 := hf
  have h4 : Cg p (x + (0 - x * f) * y) (x - x * 1) := by
    rw [show x + (0 - x * f) * y = x - x * (y * f) by grind]
    exact (Cg.refl x).sub ((Cg.refl x).mul h3)
  have h5 := h2.trans h4
  rw [show x - x * 1 = 0 by omega] at h5
  exact Cg.zero_iff.1 h5

/-! ### the determinant -/
structure DtS (p n : Nat) (M0 M : Nat → Nat → Int) (c : Nat) (out : Int) : Prop where
  small : Small p n n M
  le : c ≤ n
  out0 : 0 ≤ out ∧ out < p
  same : Cg p (dt M0 n n 0 0) (out * dt M n (n - c) c (bit c - 1))
section
variable {p n : Nat} {M0 M M1 : Nat → Nat → Int} {c : Nat} {out : Int}
theorem DtS.start (hp : 2 ≤ p) (h : Small p n n M0) : DtS p n M0 M0 0 1 := ⟨h, Nat.zero_le _, by omega, by
  rw [Int.one_mul]; exact Cg.refl _⟩
theorem DtS.done (h : DtS p n M0 M n out) : Cg p (dt M0 n n 0 0) out := by
  have := h.same
  rw [Nat.sub_self] at this
  simp only [dt, Int.mul_one] at this
  exact this
theorem DtS.none (h : DtS p n M0 M c out) (hc : c < n) (hz : ∀ k, c ≤ k → k < n → M k c = 0) : Cg p (dt M0 n n 0 0) 0 := by
  have := h.same
  obtain ⟨f, hf⟩ : ∃ f, n = c + (f + 1) := ⟨n - c - 1, by omega⟩
  rw [show n - c = f + 1 by omega, dt_none hf hz, Int.mul_zero] at this
  exact this
theorem DtS.swap (h : DtS p n M0 M c out) (hp : 2 ≤ p) {k : Nat} (h1 : c < k) (h2 : k < n) : DtS p n M0 (fun i => M (swp c k i)) c (((p : Int) - out) % (p : Int)) where
  small := h.small.swap (by omega) h2
  le := h.le
  out0 := mod_small p (by omega) _
  same := by
    rw [dt_swap c (n - c) _ k M h1 (by omega)]
    refine h.same.trans ?_
    have : Cg p (((p : Int) - out) % (p : Int)) (0 - out) := (Cg.mod _).trans (Cg.p_zero.sub (Cg.refl _))
    have h3 := this.symm.mul (Cg.refl (-dt M n (n - c) c (bit c - 1)))
    rwa [show (0 - out) * -dt M n (n - c) c (bit c - 1) = out * dt M n (n - c) c (bit c - 1) by grind] at h3
/-- rows below made less, ahead of r -/
structure DtE (p n : Nat) (M M1 : Nat → Nat → Int) (c r : Nat) : Prop where
  small : Small p n n M1
  up : ∀ i j, i ≤ c ∨ r ≤ i → M1 i j = M i j
  zero : ∀ k, c < k → k < r → M1 k c = 0
  same : Cg p (dt M n (n - c) c (bit c - 1)) (dt M1 n (n - c) c (bit c - 1))
theorem DtE.start (h : Small p n n M) : DtE p n M M c (c + 1) := ⟨h, fun _ _ _ => rfl, fun k _ _ => by omega, Cg.refl _⟩
theorem DtE.step {r : Nat} (h : DtE p n M M1 c r) (hp : 2 ≤ p) (h1 : c < r) (h2 : r < n) {f t : Int} (hf : (M c c * f) % (p : Int) = 1 % (p : Int)) (ht : t = M1 r c * f % (p : Int)) : DtE p n M (addT p M1 r c ((p : Int) - t) c n) c (r + 1) where
  small := h.small.add (by omega) _ _ _ _ _
  up := fun i j hi => by rw [addT_other (by omega)]; exact h.up i j (by omega)
  zero := fun k hk hk2 => by
    by_cases e : k = r
    · subst e
      rw [addT_at (Nat.le_refl _) (by omega), h.up c c (.inl (Nat.le_refl _))]
      exact elim_zero (by omega) hf ht
    · rw [addT_other e]; exact h.zero k hk (by omega)
  same := by
    refine h.same.trans ?_
    have e1 := dt_more (M := M1) (M2 := fun i j => if i = r then M1 r j + ((p : Int) - t) * M1 c j else M1 i j) (n := n) (i := c) (f := n - c) (used := bit c - 1) (s := r) (t := (p : Int) - t) h1 (by omega) (fun k j hk => if_neg hk) (fun j => if_pos rfl)
    rw [← e1]
    refine dt_cg _ _ _ (fun k j hk hk2 hj hu => ?_)
    by_cases e : k = r
    · subst e
      rw [low_bits, decide_eq_false_iff_not] at hu
      rw [addT_at (by omega) hj, if_pos rfl]
      exact (Cg.mod _).symm
    · rw [addT_other e, if_neg e]; exact Cg.refl _
theorem DtS.next (h : DtS p n M0 M c out) (hp : 2 ≤ p) (hc : c < n) (g : DtE p n M M1 c n) : DtS p n M0 M1 (c + 1) ((out * M c c) % (p : Int)) where
  small := g.small
  le := hc
  out0 := mod_small p (by omega) _
  same := by
    obtain ⟨f, hf⟩ : ∃ f, n = c + (f + 1) := ⟨n - c - 1, by omega⟩
    have h1 := g.same
    rw [show n - c = f + 1 by omega, dt_down (M := M1) hf (fun k hk hk2 => g.zero k hk hk2), g.up c c (.inl (Nat.le_refl _))] at h1
    have h2 := h.same
    rw [show n - c = f + 1 by omega] at h2
    rw [show n - (c + 1) = f by omega]
    refine (h2.trans ((Cg.refl out).mul h1)).trans ?_
    rw [← Int.mul_assoc]
    exact (Cg.mod _).symm.mul (Cg.refl _)
end

/-! ### reduced rows -/
structure RdS (p C N : Nat) (M0 M : Nat → Nat → Int) (c : Nat) (A : List Nat) : Prop where
  small : Small p N C M
  le : A.length ≤ N
  eq : SpEq p C N M0 M
  at_lt : ∀ i, i < A.length → A.getD i 0 < c
  rise : ∀ i k, i < k → k < A.length → A.getD i 0 < A.getD k 0
  one : ∀ i, i < A.length → M i (A.getD i 0) = 1
  zl : ∀ i j, i < A.length → j < A.getD i 0 → M i j = 0
  zc : ∀ i k, i < A.length → k < N → k ≠ i → M k (A.getD i 0) = 0
  below : ∀ k j, A.length ≤ k → k < N → j < c → M k j = 0
section
variable {p C N : Nat} {M0 M M1 : Nat → Nat → Int} {c : Nat} {A : List Nat}
theorem RdS.start (h : Small p N C M0) : RdS p C N M0 M0 0 [] :=
  ⟨h, Nat.zero_le _, SpEq.refl _, fun i hi => by simp at hi, fun i k _ hk => by simp at hk, fun i hi => by simp at hi, fun i j hi => by simp at hi, fun i k hi => by simp at hi, fun k j _ _ hj => by omega⟩
theorem RdS.none (h : RdS p C N M0 M c A) (hz : ∀ k, A.length ≤ k → k < N → M k c = 0) : RdS p C N M0 M (c + 1) A :=
  { h with
    at_lt := fun i hi => Nat.lt_succ_of_lt (h.at_lt i hi)
    below := fun k j h1 h2 h3 => by
      by_cases e : j = c
      · subst e; exact hz k h1 h2
      · exact h.below k j h1 h2 (by omega) }
theorem RdS.swap (h : RdS p C N M0 M c A) {k : Nat} (h1 : A.length ≤ k) (h2 : k < N) : RdS p C N M0 (fun i => M (swp A.length k i)) c A := by
  have hlow : ∀ i, i < A.length → swp A.length k i = i := fun i hi => by unfold swp; rw [if_neg (by omega), if_neg (by omega)]
  have hup : ∀ i, A.length ≤ i → i < N → A.length ≤ swp A.length k i ∧ swp A.length k i < N := fun i hi hi2 => by
    unfold swp
    split
    · omega
    · split <;> omega
  exact {
    small := h.small.swap (by omega) h2
    le := h.le
    eq := h.eq.trans (SpEq.swap (by omega) h2)
    at_lt := h.at_lt
    rise := h.rise
    one := fun i hi => by show M (swp _ _ i) _ = 1; rw [hlow i hi]; exact h.one i hi
    zl := fun i j hi hj => by show M (swp _ _ i) _ = 0; rw [hlow i hi]; exact h.zl i j hi hj
    zc := fun i x hi hx hne => by
      show M (swp _ _ x) _ = 0
      by_cases e : x < A.length
      · rw [hlow x e]; exact h.zc i x hi hx hne
      · have := hup x (by omega) hx
        exact h.zc i _ hi this.2 (by omega)
    below := fun x j hx hx2 hj => by
      have := hup x hx hx2
      exact h.below _ j this.1 this.2 hj }
theorem RdS.scale (h : RdS p C N M0 M c A) (hp : PrimeP p) (hA : A.length < N) {f : Int} (hf : (M A.length c * f) % (p : Int) = 1) : RdS p C N M0 (sclT p M A.length f C) c A := by
  have hf0 : ¬ Cg p f 0 := fun hc => by
    have := (Cg.refl (M A.length c)).mul hc
    rw [Int.mul_zero, Cg.zero_iff, hf] at this
    omega
  have hlow : ∀ i j, i ≠ A.length → sclT p M A.length f C i j = M i j := fun i j hi => by unfold sclT; rw [if_neg (fun e => hi e.1)]
  have hz : ∀ j, M A.length j = 0 → sclT p M A.length f C A.length j = 0 := fun j hj => by
    unfold sclT
    split
    · rw [hj]; simp
    · exact hj
  exact {
    small := h.small.scl (by have := hp.le; omega) _ _ _
    le := h.le
    eq := h.eq.trans (SpEq.scale hp hA hf0 (fun i j _ _ hi => Cg.of_eq (hlow i j hi)) (fun j hj => by
      unfold sclT
      rw [if_pos ⟨rfl, hj⟩, Int.mul_comm f]
      exact Cg.mod _))
    at_lt := h.at_lt
    rise := h.rise
    one := fun i hi => by rw [hlow i _ (by omega)]; exact h.one i hi
    zl := fun i j hi hj => by rw [hlow i _ (by omega)]; exact h.zl i j hi hj
    zc := fun i x hi hx hne => by
      by_cases e : x = A.length
      · subst e; exact hz _ (h.zc i _ hi hx hne)
      · rw [hlow x _ e]; exact h.zc i x hi hx hne
    below := fun x j hx hx2 hj => by
      by_cases e : x = A.length
      · subst e; exact hz _ (h.below _ j hx hx2 hj)
      · rw [hlow x _ e]; exact h.below x j hx hx2 hj }
/-- other rows made less, ahead of row i0 -/
structure RdE (p C N : Nat) (M0 M : Nat → Nat → Int) (c : Nat) (A : List Nat) (i0 : Nat) : Prop where
  st : RdS p C N M0 M c A
  one : M A.length c = 1
  zero : ∀ i, i < i0 → i < N → i ≠ A.length → M i c = 0
theorem RdE.start (h : RdS p C N M0 M c A) (h1 : M A.length c = 1) : RdE p C N M0 M c A 0 := ⟨h, h1, fun i hi => by omega⟩
theorem RdE.skip {i0 : Nat} (h : RdE p C N M0 M c A i0) (hs : i0 = A.length ∨ M i0 c = 0) : RdE p C N M0 M c A (i0 + 1) :=
  ⟨h.st, h.one, fun i hi hi2 hne => by
    by_cases e : i = i0
    · subst e
      rcases hs with hs | hs
      · exact absurd hs hne
      · exact hs
    · exact h.zero i (by omega) hi2 hne⟩
theorem RdE.step {i0 : Nat} (h : RdE p C N M0 M c A i0) (hp : PrimeP p) (hc : c < C) (hA : A.length < N) (hi : i0 < N) (hne : i0 ≠ A.length) : RdE p C N M0 (addT p M i0 A.length ((p : Int) - M i0 c) 0 C) c A (i0 + 1) := by
  have hp2 := hp.le
  have hlow : ∀ i j, i ≠ i0 → addT p M i0 A.length ((p : Int) - M i0 c) 0 C i j = M i j := fun i j hx => addT_other hx j
  have hkeep : ∀ j, j < C → M A.length j = 0 → addT p M i0 A.length ((p : Int) - M i0 c) 0 C i0 j = M i0 j := fun j hj hz => by
    rw [addT_at (Nat.zero_le _) hj, hz, Int.mul_zero, Int.add_zero]
    have := h.st.small i0 j hi hj
    exact Int.emod_eq_of_lt this.1 this.2
  have hatC : ∀ i, i < A.length → A.getD i 0 < C := fun i hx => by have := h.st.at_lt i hx; omega
  refine ⟨{
    small := h.st.small.add (by omega) _ _ _ _ _
    le := h.st.le
    eq := h.st.eq.trans (SpEq.more hp hi hA (fun e => hne e.symm) (u := 1) (t := (p : Int) - M i0 c) (fun e => by
      rw [Cg.zero_iff, Int.emod_eq_of_lt (by omega) (by omega)] at e; omega) (fun i j _ _ hx => Cg.of_eq (hlow i j hx)) (fun j hj => by
      rw [addT_at (Nat.zero_le _) hj, Int.one_mul]
      exact Cg.mod _))
    at_lt := h.st.at_lt
    rise := h.st.rise
    one := fun i hx => by
      by_cases e : i = i0
      · subst e
        rw [hkeep _ (hatC i hx) (h.st.zc i _ hx hA (by omega))]; exact h.st.one i hx
      · rw [hlow i _ e]; exact h.st.one i hx
    zl := fun i j hx hj => by
      by_cases e : i = i0
      · subst e
        rw [hkeep j (by have := hatC i hx; omega) (h.st.below _ j (Nat.le_refl _) hA (by have := h.st.at_lt i hx; omega))]; exact h.st.zl i j hx hj
      · rw [hlow i _ e]; exact h.st.zl i j hx hj
    zc := fun i x hx hxN hxi => by
      by_cases e : x = i0
      · subst e
        rw [hkeep _ (hatC i hx) (h.st.zc i _ hx hA (by omega))]; exact h.st.zc i x hx hxN hxi
      · rw [hlow x _ e]; exact h.st.zc i x hx hxN hxi
    below := fun x j hx hxN hj => by
      by_cases e : x = i0
      · subst e
        rw [hkeep j (by omega) (h.st.below _ j (Nat.le_refl _) hA hj)]; exact h.st.below x j hx hxN hj
      · rw [hlow x _ e]; exact h.st.below x j hx hxN hj }, ?_, ?_⟩
  · rw [hlow _ _ (fun e => hne e.symm)]; exact h.one
  · intro i hx hxN hxne
    by_cases e : i = i0
    · subst e
      rw [addT_at (Nat.zero_le _) hc, h.one, Int.mul_one]
      rw [show M i c + ((p : Int) - M i c) = p by omega]
      simp
    · rw [hlow i _ e]; exact h.zero i (by omega) hxN hxne
theorem RdE.done (h : RdE p C N M0 M c A N) (hA : A.length < N) : RdS p C N M0 M (c + 1) (A ++ [c]) := by
  have hlt : ∀ i, i < A.length → (A ++ [c]).getD i 0 = A.getD i 0 := fun i hi => by
    rw [List.getD_eq_getElem?_getD, List.getElem?_append_left hi, ← List.getD_eq_getElem?_getD]
  have heq : (A ++ [c]).getD A.length 0 = c := by
    rw [List.getD_eq_getElem?_getD, List.getElem?_append_right (Nat.le_refl _)]; simp
  have hlen : (A ++ [c]).length = A.length + 1 := by simp
  exact {
    small := h.st.small
    le := by omega
    eq := h.st.eq
    at_lt := fun i hi => by
      by_cases e : i = A.length
      · rw [e, heq]; omega
      · rw [hlt i (by omega)]; have := h.st.at_lt i (by omega); omega
    rise := fun i k hik hk => by
      by_cases e : k = A.length
      · rw [e, heq, hlt i (by omega)]; exact h.st.at_lt i (by omega)
      · rw [hlt i (by omega), hlt k (by omega)]; exact h.st.rise i k hik (by omega)
    one := fun i hi => by
      by_cases e : i = A.length
      · rw [e, heq]; exact h.one
      · rw [hlt i (by omega)]; exact h.st.one i (by omega)
    zl := fun i j hi hj => by
      by_cases e : i = A.length
      · rw [e] at hj ⊢
        rw [heq] at hj
        exact h.st.below _ j (Nat.le_refl _) hA hj
      · rw [hlt i (by omega)] at hj; exact h.st.zl i j (by omega) hj
    zc := fun i k hi hk hne => by
      by_cases e : i = A.length
      · rw [e] at hne ⊢
        rw [heq]; exact h.zero k hk hk hne
      · rw [hlt i (by omega)]; exact h.st.zc i k (by omega) hk hne
    below := fun k j h1 h2 h3 => by
      rw [hlen] at h1
      by_cases e : j = c
      · subst e; exact h.zero k h2 h2 (by omega)
      · exact h.st.below k j (by omega) h2 (by omega) }
/-- the rows that are left: as many as there must be -/
theorem RdS.rank (h : RdS p C N M0 M c A) (hp : PrimeP p) (hc : c ≤ C) (hend : c = C ∨ A.length = N) : RankIs p C N M0 A.length := by
  refine ⟨M, fun i => A.getD i 0, ⟨fun i hi => ⟨by have := h.at_lt i hi; omega, by
    rw [h.one i hi, Cg.zero_iff]
    have := hp.le
    rw [Int.emod_eq_of_lt (by omega) (by omega)]; omega, fun j hj => Cg.of_eq (h.zl i j hi hj)⟩, fun i k hi hk e => ?_⟩, fun i hi => h.eq.fwd i (by have := h.le; omega), fun i hi => ?_⟩
  · rcases Nat.lt_trichotomy i k with d | d | d
    · have := h.rise i k d hk
      omega
    · exact d
    · have := h.rise k i d hi
      omega
  · refine (h.eq.bwd i hi).trans (fun k hk => ?_)
    by_cases d : k < A.length
    · exact InSp.mem d
    · refine InSp.zero (fun j hj => ?_)
      rcases hend with e | e
      · exact Cg.of_eq (h.below k j (by omega) hk (by omega))
      · omega
/-- where no row hangs on others all are left -/
theorem RdS.all (h : RdS p C N M0 M c A) (hp : PrimeP p) (hend : c = C ∨ A.length = N) (hI : Indep p C N M0) : A.length = N := by
  rcases hend with e | e
  · apply Classical.byContradiction
    intro hne
    have := h.le
    exact (h.eq.ind hI).row hp (r := A.length) (by omega) (fun j hj => Cg.of_eq (h.below _ j (Nat.le_refl _) (by omega) (by omega)))
  · exact e
end

end Go.Proofs.Ytdcdhdlklppalaa

namespace Go.Proofs.Ytdcdhdlklppalaa
open Go.RowKit
set_option linter.unusedVariables false

set_option maxHeartbeats 1000000 in
theorem c_cloneM {B : Nat} {W : World} (u : Later B W) (xs : List Int) (ad : Option Addr) (cap : Nat) (h : IntsAt B W ad xs) (hn : ad = none → cap = 0) (hlen : xs.length ≤ 1048576) :
    Calls Try.prog 38 #[.slice ad xs.length cap] u.val (RetOwn B W xs) := by
  cases ad with
  | none =>
    have hc := hn rfl
    subst hc
    have hx : xs = [] := by
      by_cases e : xs = []
      · exact e
      · obtain ⟨b, off, e2, _⟩ := h e; cases e2
    subst hx
    have heq : ∀ w : World, (binOp .eql 22 (.slice none 0 0) (.slice none 0 0)).run Try.prog w = .ok (.bool true) w := fun w => by simp only [binOp]; simp [run_equal_slice_nil w 22 3 none 0 0 Try.underlying22]
    clear h hn
    go_enter Try.func38, Try.ntmps38
    go_wp2
    go_ret
    exact RetP.mk u ⟨none, 0, rfl, Own.nil _ _⟩
  | some x =>
    have HI : Hid (IntsAt (u.val.alloc (.cells #[] 3)).heap.size (u.val.alloc (.cells #[] 3)) (some x) xs) := Lib.hid (h.to (u.alloc _))
    have hB := u.size
    have HO : Hid (Own B (u.val.alloc (.cells #[] 3)) (some ⟨u.val.heap.size, 0, none⟩) 0 []) := Lib.hid ⟨rfl, .inr ⟨u.val.heap.size, 0, #[], rfl, hB, heap_alloc_new _ _, by simp, by simp [maxLen], by simp, by simp⟩⟩
    have heq : ∀ w : World, (binOp .eql 22 (.slice (some x) xs.length cap) (.slice none 0 0)).run Try.prog w = .ok (.bool false) w := fun w => by simp only [binOp]; simp [run_equal_slice_nil w 22 3 (some x) xs.length cap Try.underlying22]
    clear h hn
    go_enter Try.func38, Try.ntmps38
    go_wp2_with (first | (at_builtin; refine wpList_appends_g (B := B) (by simp; omega) rfl _ _ rfl [] (some ⟨u.val.heap.size, 0, none⟩) 0 rfl HO.out xs (some x) cap rfl HI.out (by simp) (by simp; omega) ?_; intro w' ad' cap' hown hgrow) | fail)
    go_ret
    refine RetP.mk ((u.alloc (.cells #[] 3)).to w' (own_below (Below.refl _ _) (u.alloc (.cells #[] 3)).size HO.out hgrow)) ⟨ad', cap', rfl, hown⟩

theorem ownsRow_other {B : Nat} {w : World} {e : TypeId} {n : Nat} {v : Value} {m : Nat} {xs : List Value} (h : w.ownsRow B e n v m xs) {b i : Nat} (hne : v.ownBlock ≠ some b) (x : Value) : (w.setCell ⟨b, i, none⟩ x).ownsRow B e n v m xs :=
  World.ownsRow.kept (row := some b) h ⟨rfl, rfl, rfl, by simp, fun k _ hk => Below.heap_setCell _ _ _ _ (by rintro rfl; exact hk rfl)⟩ (.inr hne)
theorem below_set {C : Nat} {w : World} {b i : Nat} (hb : C ≤ b) (x : Value) : Below C w (w.setCell ⟨b, i, none⟩ x) := ⟨rfl, rfl, rfl, by simp, fun k hk => Below.heap_setCell _ _ _ _ (by show k ≠ b; omega)⟩
theorem Own.far2 {B : Nat} {w : World} {g cap : Nat} {xs : List Int} (h : Own B w (some ⟨g, 0, none⟩) cap xs) {b i : Nat} (hne : g ≠ b) (x : Value) : Own B (w.setCell ⟨b, i, none⟩ x) (some ⟨g, 0, none⟩) cap xs :=
  ownsRow_other h (by simp [Value.ownBlock]; exact hne) x
theorem Own.cellL {B : Nat} {w : World} {g cap n : Nat} {A : Nat → Int} (h : Own B w (some ⟨g, 0, none⟩) cap (tabL n A)) {i : Nat} (hi : i < n) : w.cell? ⟨g, i, none⟩ = some (.int .i64 (A i)) := by
  unfold Own at h
  rw [World.ownsRow.cellAt h i (by rw [tabL_len]; omega)]
  simp [tabL, hi]
theorem Own.fzL {B : Nat} {w : World} {g cap : Nat} {xs : List Int} (h : Own B w (some ⟨g, 0, none⟩) cap xs) (i : Nat) : w.frozen? ⟨g, i, none⟩ = false := World.ownsRow.frozenAt h i
theorem Own.ltL {B : Nat} {w : World} {g cap : Nat} {xs : List Int} (h : Own B w (some ⟨g, 0, none⟩) cap xs) : B ≤ g ∧ g < w.heap.size := World.ownsRow.lt h g rfl
theorem Own.setL {B : Nat} {w : World} {g cap n : Nat} {A A' : Nat → Int} (h : Own B w (some ⟨g, 0, none⟩) cap (tabL n A)) (i : Nat) (v : Int) (e : ∀ j, j < n → A' j = if j = i then v else A j) : Own B (w.setCell ⟨g, i, none⟩ (.int .i64 v)) (some ⟨g, 0, none⟩) cap (tabL n A') := by
  unfold Own at h ⊢
  rw [tabL_len] at h ⊢
  have := (World.ownsRow.stored h i (.int .i64 v)).1
  rwa [show (tabL n A').map (Value.int .i64) = ((tabL n A).map (Value.int .i64)).set i (.int .i64 v) from by
    apply List.ext_getElem
    · simp [tabL]
    · intro k h1 h2
      simp [tabL] at h1
      rw [List.getElem_set]
      simp only [tabL, List.getElem_map, List.getElem_range]
      rw [e k h1]
      by_cases c : k = i
      · subst c; simp
      · rw [if_neg c, if_neg (fun h => c h.symm)]]

/-- N rows of C numbers each, under a row of slices: row i in block r i -/
structure Mtx (B : Nat) (w : World) (ad : Option Addr) (gc N C : Nat) (hd : Nat → Option Addr) (r cp : Nat → Nat) (P : Nat → Nat → Int) : Prop where
  top : w.ownsRow B 22 1 (.slice ad N gc) N ((List.range N).map (fun i => Value.slice (hd i) C (cp i)))
  hdr : 0 < C → ∀ i, i < N → hd i = some ⟨r i, 0, none⟩
  row : 0 < C → ∀ i, i < N → Own B w (some ⟨r i, 0, none⟩) (cp i) (tabL C (P i))
  ne : 0 < C → ∀ i, i < N → ∀ g, ad = some ⟨g, 0, none⟩ → r i ≠ g
  inj : 0 < C → ∀ i j, i < N → j < N → r i = r j → i = j
  nil : ∀ i, i < N → hd i = none → cp i = 0
namespace Mtx
variable {B : Nat} {w : World} {ad : Option Addr} {gc N C : Nat} {hd : Nat → Option Addr} {r cp : Nat → Nat} {P : Nat → Nat → Int}
theorem start (B : Nat) (w : World) (C : Nat) (hd : Nat → Option Addr) (r cp : Nat → Nat) (P : Nat → Nat → Int) : Mtx B w none 0 0 C hd r cp P :=
  ⟨World.ownsRow_nil _ _ _ _, fun _ i hi => by omega, fun _ i hi => by omega, fun _ i hi => by omega, fun _ i j hi => by omega, fun i hi => by omega⟩
theorem some' (h : Mtx B w ad gc N C hd r cp P) (hN : 0 < N) : ∃ g, ad = some ⟨g, 0, none⟩ ∧ B ≤ g ∧ g < w.heap.size := by
  rcases h.top.2 with ⟨_, hz⟩ | ⟨g, c, cur, e, hb, hh, _⟩
  · omega
  · simp only [Value.slice.injEq] at e
    exact ⟨g, e.1, hb, (Array.getElem?_eq_some_iff.1 hh).1⟩
theorem room (h : Mtx B w ad gc N C hd r cp P) : N ≤ gc := by
  rcases h.top.2 with ⟨_, hz⟩ | ⟨g, c, cur, e, hb, hh, hn, _⟩
  · omega
  · simp only [Value.slice.injEq] at e
    omega
theorem form (h : Mtx B w ad gc N C hd r cp P) : (ad = none ∧ gc = 0 ∧ N = 0) ∨ ∃ g, ad = some ⟨g, 0, none⟩ ∧ B ≤ g ∧ g < w.heap.size := by
  rcases h.top.2 with ⟨e, hz⟩ | ⟨g, c, cur, e, hb, hh, hn, _⟩
  · simp only [Value.slice.injEq] at e
    exact .inl ⟨e.1, e.2.2, hz⟩
  · simp only [Value.slice.injEq] at e
    exact .inr ⟨g, e.1, hb, (Array.getElem?_eq_some_iff.1 hh).1⟩
theorem tcell {g : Nat} (h : Mtx B w (some ⟨g, 0, none⟩) gc N C hd r cp P) {i : Nat} (hi : i < N) : w.cell? ⟨g, i, none⟩ = some (.slice (hd i) C (cp i)) := by
  rw [World.ownsRow.cellAt h.top i (by omega)]
  simp [hi]
theorem tfz {g : Nat} (h : Mtx B w (some ⟨g, 0, none⟩) gc N C hd r cp P) (i : Nat) : w.frozen? ⟨g, i, none⟩ = false := World.ownsRow.frozenAt h.top i
theorem cell (h : Mtx B w ad gc N C hd r cp P) {i j : Nat} (hi : i < N) (hj : j < C) : w.cell? ⟨r i, j, none⟩ = some (.int .i64 (P i j)) := (h.row (by omega) i hi).cellL hj
theorem fz (h : Mtx B w ad gc N C hd r cp P) (hC : 0 < C) {i : Nat} (hi : i < N) (j : Nat) : w.frozen? ⟨r i, j, none⟩ = false := (h.row hC i hi).fzL j
theorem rlt (h : Mtx B w ad gc N C hd r cp P) (hC : 0 < C) {i : Nat} (hi : i < N) : B ≤ r i ∧ r i < w.heap.size := (h.row hC i hi).ltL
theorem keep {w' : World} (h : Mtx B w ad gc N C hd r cp P) (hb : Below w.heap.size w w') : Mtx B w' ad gc N C hd r cp P :=
  ⟨World.ownsRow.kept (row := none) h.top ⟨hb.os, hb.tape, hb.output, hb.size, fun k hk _ => hb.block k hk⟩ (by cases (Value.slice ad N gc).ownBlock <;> simp), h.hdr, fun hC i hi => (h.row hC i hi).keep hb, h.ne, h.inj, h.nil⟩
theorem mono {B' : Nat} (h : Mtx B w ad gc N C hd r cp P) (hb : B' ≤ B) : Mtx B' w ad gc N C hd r cp P :=
  ⟨World.ownsRow.mono h.top hb, h.hdr, fun hC i hi => (h.row hC i hi).mono hb, h.ne, h.inj, h.nil⟩
theorem congr (h : Mtx B w ad gc N C hd r cp P) {P' : Nat → Nat → Int} (e : ∀ i j, i < N → j < C → P i j = P' i j) : Mtx B w ad gc N C hd r cp P' :=
  ⟨h.top, h.hdr, fun hC i hi => by rw [← tabL_congr (fun j hj => e i j hi hj)]; exact h.row hC i hi, h.ne, h.inj, h.nil⟩
/-- older blocks are written -/
theorem old (h : Mtx B w ad gc N C hd r cp P) {b i : Nat} (hb : b < B) (x : Value) : Mtx B (w.setCell ⟨b, i, none⟩ x) ad gc N C hd r cp P :=
  ⟨ownsRow_other h.top (fun e => by
    have := (World.ownsRow.lt h.top b e).1
    omega) x, h.hdr, fun hC i hi => (h.row hC i hi).set hb x, h.ne, h.inj, h.nil⟩
/-- one number is written -/
theorem set (h : Mtx B w ad gc N C hd r cp P) (hC : 0 < C) {a : Nat} (ha : a < N) (b : Nat) (x : Int) : Mtx B (w.setCell ⟨r a, b, none⟩ (.int .i64 x)) ad gc N C hd r cp (setM P a b x) where
  top := ownsRow_other h.top (fun e => by
    rcases h.form with ⟨rfl, rfl, rfl⟩ | ⟨g, rfl, _⟩
    · omega
    · exact h.ne hC a ha g rfl (by cases e; rfl)) _
  hdr := h.hdr
  row := fun _ i hi => by
    by_cases c : i = a
    · subst c
      exact (h.row hC i hi).setL b x (fun j hj => by unfold setM; by_cases e : j = b <;> simp [e])
    · have h1 := (h.row hC i hi).far2 (b := r a) (i := b) (fun e => c (h.inj hC i a hi ha e)) (.int .i64 x)
      rwa [tabL_congr (A' := setM P a b x i) (fun j hj => by unfold setM; rw [if_neg (fun e => c e.1)])] at h1
  ne := h.ne
  inj := h.inj
  nil := h.nil
/-- two rows change places -/
theorem swap {g : Nat} (h : Mtx B w (some ⟨g, 0, none⟩) gc N C hd r cp P) {a b : Nat} (ha : a < N) (hb : b < N) : Mtx B ((w.setCell ⟨g, a, none⟩ (.slice (hd b) C (cp b))).setCell ⟨g, b, none⟩ (.slice (hd a) C (cp a))) (some ⟨g, 0, none⟩) gc N C (fun i => hd (swp a b i)) (fun i => r (swp a b i)) (fun i => cp (swp a b i)) (fun i => P (swp a b i)) where
  top := by
    have h1 := (World.ownsRow.stored h.top a (.slice (hd b) C (cp b))).1
    have h2 := (World.ownsRow.stored h1 b (.slice (hd a) C (cp a))).1
    rwa [show (List.range N).map (fun i => Value.slice (hd (swp a b i)) C (cp (swp a b i))) = (((List.range N).map (fun i => Value.slice (hd i) C (cp i))).set a (.slice (hd b) C (cp b))).set b (.slice (hd a) C (cp a)) from by
      apply List.ext_getElem
      · simp
      · intro k h1 h2
        simp at h1
        rw [List.getElem_set, List.getElem_set]
        simp only [List.getElem_map, List.getElem_range]
        unfold swp
        by_cases c2 : b = k
        · rw [if_pos c2]
          subst c2
          by_cases c1 : b = a
          · subst c1; simp
          · rw [if_neg c1, if_pos rfl]
        · rw [if_neg c2]
          by_cases c1 : a = k
          · subst c1; simp
          · rw [if_neg c1, if_neg (fun e => c1 e.symm), if_neg (fun e => c2 e.symm)]]
  hdr := fun hC i hi => h.hdr hC _ (swp_lt ha hb hi)
  row := fun hC i hi => by
    have hlt := swp_lt ha hb hi
    exact ((h.row hC _ hlt).far2 (h.ne hC _ hlt g rfl) _).far2 (h.ne hC _ hlt g rfl) _
  ne := fun hC i hi => h.ne hC _ (swp_lt ha hb hi)
  inj := fun hC i j hi hj e => by
    have := h.inj hC _ _ (swp_lt ha hb hi) (swp_lt ha hb hj) e
    have e2 := congrArg (swp a b) this
    rwa [swp_swp, swp_swp] at e2
  nil := fun i hi => h.nil _ (swp_lt ha hb hi)
end Mtx
/-- read as a list of lists -/
def mxL (N C : Nat) (P : Nat → Nat → Int) : Lls := (List.range N).map (fun i => tabL C (P i))
theorem mxL_len (N C : Nat) (P : Nat → Nat → Int) : (mxL N C P).length = N := by simp [mxL]
theorem mxL_get {N C : Nat} {P : Nat → Nat → Int} {i : Nat} (hi : i < N) : (mxL N C P).getD i [] = tabL C (P i) := by simp [mxL, hi]
theorem mxL_ent {N C : Nat} {P : Nat → Nat → Int} {i j : Nat} (hi : i < N) (hj : j < C) : ent (mxL N C P) i j = P i j := by
  unfold ent
  rw [mxL_get hi, tabL_getD hj]
theorem Mtx.rows {B : Nat} {w : World} {ad : Option Addr} {gc N C : Nat} {hd : Nat → Option Addr} {r cp : Nat → Nat} {P : Nat → Nat → Int} (h : Mtx B w ad gc N C hd r cp P) : RowsI w.heap.size w ad (mxL N C P) := fun hne => by
  have hN : 0 < N := by
    rcases Nat.eq_zero_or_pos N with e | e
    · subst e; exact absurd rfl hne
    · exact e
  obtain ⟨g, rfl, _, hlt⟩ := h.some' hN
  refine ⟨g, 0, rfl, hlt, fun i hi => ?_⟩
  rw [mxL_len] at hi
  rw [mxL_get hi, tabL_len, Nat.zero_add]
  refine ⟨hd i, cp i, h.tcell hi, ?_, h.nil i hi⟩
  by_cases hC : 0 < C
  · rw [h.hdr hC i hi]; exact (h.row hC i hi).reads
  · have : C = 0 := by omega
    subst this
    exact fun hne => absurd rfl hne
theorem swp_comm (a b k : Nat) : swp a b k = swp b a k := by
  unfold swp
  by_cases c1 : k = a <;> by_cases c2 : k = b <;> simp_all

/-- a row of the call's own -/
structure RowO (B : Nat) (w : World) (C : Nat) (hd : Option Addr) (r cp : Nat) (Q : Nat → Int) : Prop where
  hdr : 0 < C → hd = some ⟨r, 0, none⟩
  row : 0 < C → Own B w (some ⟨r, 0, none⟩) cp (tabL C Q)
  nil : hd = none → cp = 0
/-- a world in which one row more lies behind the others -/
structure PushM (B : Nat) (w : World) (ad : Option Addr) (gc N C : Nat) (hd : Nat → Option Addr) (r cp : Nat → Nat) (P : Nat → Nat → Int) (ar : Option Addr) (rr cr : Nat) (Q : Nat → Int) where
  val : World
  g : Nat
  gc' : Nat
  below : Below B w val
  out : Mtx B val (some ⟨g, 0, none⟩) gc' (N + 1) C (fun i => if i = N then ar else hd i) (fun i => if i = N then rr else r i) (fun i => if i = N then cr else cp i) (fun i => if i = N then Q else P i)
set_option maxRecDepth 100000 in
theorem step_pushM {B : Nat} {w : World} {ad : Option Addr} {gc N C : Nat} {hd : Nat → Option Addr} {r cp : Nat → Nat} {P : Nat → Nat → Int} (hM : Mtx B w ad gc N C hd r cp P) {ar : Option Addr} {rr cr : Nat} {Q : Nat → Int} (hR : RowO B w C ar rr cr Q) (hnew : 0 < C → (∀ i, i < N → r i ≠ rr) ∧ ∀ g, ad = some ⟨g, 0, none⟩ → rr ≠ g) (hB : B ≤ w.heap.size)
    {ops : Array Oper} {o : Oper} {a : Act} {K : Act → World → Prop} {Q' : Exit → Act → World → Prop} {E : Prop} (hgd : o.guard = none) (s x : Operand)
    (ho : o.op = .call { callee := .builtin .append, args := #[s, x], argTypes := #[63, 63] })
    (hs : a.eval s = .slice ad N gc) (hx : a.eval x = .slice (some ⟨w.heap.size, 0, none⟩) 1 1)
    (hlen : N + 1 ≤ 4294967296)
    (h : ∀ p : PushM B w ad gc N C hd r cp P ar rr cr Q, K (a.put o.dst (.slice (some ⟨p.g, 0, none⟩) (N + 1) p.gc')) p.val) :
    if Region.wanted o (yielded ops a.tmps) = true then Oper.wp Try.prog o a (w.alloc (.cells #[.slice ar C cr] 22)) K Q' else E := by
  obtain ⟨i0, hi, hz0, hz1, hz2⟩ := info_parts info_row
  refine step_append_lies _ hgd s x 63 ho B 22 i0 (.slice none 0 0) 1 24 Try.underlying63 hi hz0 hz1 hz2 rfl (by decide) _ N _ hs (World.ownsRow.alloc hM.top _) ⟨w.heap.size, 0, none⟩ 1 1 [.slice ar C cr] hx rfl ?_ ?_ (by decide) (by unfold maxLen; omega) (by omega) (by simp; omega) _ rfl ?_
  · intro j v hj
    have hj0 : j = 0 := by
      have := (List.getElem?_eq_some_iff.1 hj).1
      simp at this
      omega
    subst hj0
    have e : (⟨w.heap.size, 0, none⟩ : Addr).add 0 = ⟨w.heap.size, 0, none⟩ := by unfold Addr.add; split <;> simp_all
    rw [e]
    simp at hj
    subst hj
    exact cell_one_new w _ 22 0 _ rfl
  · intro v hv
    simp at hv
    subst hv
    rfl
  · intro g gc' w' h2 h3 h4 h5
    have hal : Below w.heap.size w (w.alloc (.cells #[.slice ar C cr] 22)) := (Below.refl _ _).alloc (Nat.le_refl _) _
    have hsz : (w.alloc (.cells #[.slice ar C cr] 22)).heap.size = w.heap.size + 1 := by simp
    have hgo : g = g := rfl
    have hown : ∀ k, (Value.slice ad N gc).ownBlock = some k → ad = some ⟨k, 0, none⟩ ∧ B ≤ k := fun k hk => by
      rcases hM.form with ⟨rfl, rfl, rfl⟩ | ⟨g', rfl, hb, _⟩
      · cases hk
      · have e : g' = k := by simpa [Value.ownBlock] using hk
        subst e
        exact ⟨rfl, hb⟩
    have hg : ∀ q, q < w.heap.size → (∀ k, ad = some ⟨k, 0, none⟩ → q ≠ k) → g ≠ q := fun q hq hne e => by
      rcases h4 with h4 | h4
      · exact hne g (hown g h4).1 e.symm
      · omega
    have hbel : Below B w w' := ⟨h3.os.trans hal.os, h3.tape.trans hal.tape, h3.output.trans hal.output, by have := h3.size; omega, fun k hk => by
      rw [h3.block k (by omega) (fun e => by have := (hown k e.symm).2; omega), hal.block k (by omega)]⟩
    have hkeep : ∀ {q c : Nat} {xs : List Int}, Own B w (some ⟨q, 0, none⟩) c xs → (∀ k, ad = some ⟨k, 0, none⟩ → q ≠ k) → Own B w' (some ⟨q, 0, none⟩) c xs := fun {q c xs} hO hne => by
      refine (hO.keep hal).kept h3 (.inr ?_)
      intro e
      have e2 : (Value.slice ad N gc).ownBlock = some q := e.symm
      exact hne q (hown q e2).1 rfl
    refine h ⟨w', g, gc', hbel, ?_, ?_, ?_, ?_, ?_, ?_⟩
    · rwa [show (List.range N).map (fun i => Value.slice (hd i) C (cp i)) ++ [.slice ar C cr] = (List.range (N + 1)).map (fun i => Value.slice (if i = N then ar else hd i) C (if i = N then cr else cp i)) from by
        rw [List.range_succ, List.map_append]
        congr 1
        · refine List.map_congr_left (fun i hi => ?_)
          have : i < N := by simpa using hi
          rw [if_neg (by omega), if_neg (by omega)]
        · simp] at h2
    · intro hC i hi
      by_cases e : i = N
      · subst e; simp only [if_true]; exact hR.hdr hC
      · simp only [if_neg e]; exact hM.hdr hC i (by omega)
    · intro hC i hi
      by_cases e : i = N
      · subst e; simp only [if_true]; exact hkeep (hR.row hC) (hnew hC).2
      · simp only [if_neg e]; exact hkeep (hM.row hC i (by omega)) (fun k hk => hM.ne hC i (by omega) k hk)
    · intro hC i hi g' hg'
      cases hg'
      by_cases e : i = N
      · subst e; simp only [if_true]; exact fun e2 => hg rr (hR.row hC).ltL.2 (hnew hC).2 e2.symm
      · simp only [if_neg e]; exact fun e2 => hg (r i) (hM.rlt hC (by omega)).2 (fun k hk => hM.ne hC i (by omega) k hk) e2.symm
    · intro hC i j hi hj e
      by_cases c1 : i = N <;> by_cases c2 : j = N
      · omega
      · simp only [if_pos c1, if_neg c2] at e
        exact absurd e.symm ((hnew hC).1 j (by omega))
      · simp only [if_neg c1, if_pos c2] at e
        exact absurd e ((hnew hC).1 i (by omega))
      · simp only [if_neg c1, if_neg c2] at e
        exact hM.inj hC i j (by omega) (by omega) e
    · intro i hi
      by_cases e : i = N
      · subst e; simp only [if_true]; exact hR.nil
      · simp only [if_neg e]; exact hM.nil i (by omega)

set_option maxRecDepth 100000 in
theorem wpList_pushM {B : Nat} {w : World} {ad : Option Addr} {gc N C : Nat} {hd : Nat → Option Addr} {r cp : Nat → Nat} {P : Nat → Nat → Int} (hM : Mtx B w ad gc N C hd r cp P) {ar : Option Addr} {rr cr : Nat} {Q : Nat → Int} (hR : RowO B w C ar rr cr Q) (hnew : 0 < C → (∀ i, i < N → r i ≠ rr) ∧ ∀ g, ad = some ⟨g, 0, none⟩ → rr ≠ g) (hB : B ≤ w.heap.size)
    {ops : Array Oper} {rest : List Oper} {o : Oper} {a : Act} {Q' : Exit → Act → World → Prop} (hgd : o.guard = none) (s x : Operand)
    (ho : o.op = .call { callee := .builtin .append, args := #[s, x], argTypes := #[63, 63] })
    (hs : a.eval s = .slice ad N gc) (hx : a.eval x = .slice (some ⟨w.heap.size, 0, none⟩) 1 1)
    (hlen : N + 1 ≤ 4294967296)
    (h : ∀ p : PushM B w ad gc N C hd r cp P ar rr cr Q, wpList Try.prog ops Q' rest (a.put o.dst (.slice (some ⟨p.g, 0, none⟩) (N + 1) p.gc')) p.val) :
    wpList Try.prog ops Q' (o :: rest) a (w.alloc (.cells #[.slice ar C cr] 22)) := by
  obtain ⟨i0, hi, hz0, hz1, hz2⟩ := info_parts info_row
  refine wpList_append_lies _ hgd s x 63 ho B 22 i0 (.slice none 0 0) 1 24 Try.underlying63 hi hz0 hz1 hz2 rfl (by decide) _ N _ hs (World.ownsRow.alloc hM.top _) ⟨w.heap.size, 0, none⟩ 1 1 [.slice ar C cr] hx rfl ?_ ?_ (by decide) (by unfold maxLen; omega) (by omega) (by simp; omega) _ rfl ?_
  · intro j v hj
    have hj0 : j = 0 := by
      have := (List.getElem?_eq_some_iff.1 hj).1
      simp at this
      omega
    subst hj0
    have e : (⟨w.heap.size, 0, none⟩ : Addr).add 0 = ⟨w.heap.size, 0, none⟩ := by unfold Addr.add; split <;> simp_all
    rw [e]
    simp at hj
    subst hj
    exact cell_one_new w _ 22 0 _ rfl
  · intro v hv
    simp at hv
    subst hv
    rfl
  · intro g gc' w' h2 h3 h4 h5
    have hal : Below w.heap.size w (w.alloc (.cells #[.slice ar C cr] 22)) := (Below.refl _ _).alloc (Nat.le_refl _) _
    have hsz : (w.alloc (.cells #[.slice ar C cr] 22)).heap.size = w.heap.size + 1 := by simp
    have hgo : g = g := rfl
    have hown : ∀ k, (Value.slice ad N gc).ownBlock = some k → ad = some ⟨k, 0, none⟩ ∧ B ≤ k := fun k hk => by
      rcases hM.form with ⟨rfl, rfl, rfl⟩ | ⟨g', rfl, hb, _⟩
      · cases hk
      · have e : g' = k := by simpa [Value.ownBlock] using hk
        subst e
        exact ⟨rfl, hb⟩
    have hg : ∀ q, q < w.heap.size → (∀ k, ad = some ⟨k, 0, none⟩ → q ≠ k) → g ≠ q := fun q hq hne e => by
      rcases h4 with h4 | h4
      · exact hne g (hown g h4).1 e.symm
      · omega
    have hbel : Below B w w' := ⟨h3.os.trans hal.os, h3.tape.trans hal.tape, h3.output.trans hal.output, by have := h3.size; omega, fun k hk => by
      rw [h3.block k (by omega) (fun e => by have := (hown k e.symm).2; omega), hal.block k (by omega)]⟩
    have hkeep : ∀ {q c : Nat} {xs : List Int}, Own B w (some ⟨q, 0, none⟩) c xs → (∀ k, ad = some ⟨k, 0, none⟩ → q ≠ k) → Own B w' (some ⟨q, 0, none⟩) c xs := fun {q c xs} hO hne => by
      refine (hO.keep hal).kept h3 (.inr ?_)
      intro e
      have e2 : (Value.slice ad N gc).ownBlock = some q := e.symm
      exact hne q (hown q e2).1 rfl
    refine h ⟨w', g, gc', hbel, ?_, ?_, ?_, ?_, ?_, ?_⟩
    · rwa [show (List.range N).map (fun i => Value.slice (hd i) C (cp i)) ++ [.slice ar C cr] = (List.range (N + 1)).map (fun i => Value.slice (if i = N then ar else hd i) C (if i = N then cr else cp i)) from by
        rw [List.range_succ, List.map_append]
        congr 1
        · refine List.map_congr_left (fun i hi => ?_)
          have : i < N := by simpa using hi
          rw [if_neg (by omega), if_neg (by omega)]
        · simp] at h2
    · intro hC i hi
      by_cases e : i = N
      · subst e; simp only [if_true]; exact hR.hdr hC
      · simp only [if_neg e]; exact hM.hdr hC i (by omega)
    · intro hC i hi
      by_cases e : i = N
      · subst e; simp only [if_true]; exact hkeep (hR.row hC) (hnew hC).2
      · simp only [if_neg e]; exact hkeep (hM.row hC i (by omega)) (fun k hk => hM.ne hC i (by omega) k hk)
    · intro hC i hi g' hg'
      cases hg'
      by_cases e : i = N
      · subst e; simp only [if_true]; exact fun e2 => hg rr (hR.row hC).ltL.2 (hnew hC).2 e2.symm
      · simp only [if_neg e]; exact fun e2 => hg (r i) (hM.rlt hC (by omega)).2 (fun k hk => hM.ne hC i (by omega) k hk) e2.symm
    · intro hC i j hi hj e
      by_cases c1 : i = N <;> by_cases c2 : j = N
      · omega
      · simp only [if_pos c1, if_neg c2] at e
        exact absurd e.symm ((hnew hC).1 j (by omega))
      · simp only [if_neg c1, if_pos c2] at e
        exact absurd e ((hnew hC).1 i (by omega))
      · simp only [if_neg c1, if_neg c2] at e
        exact hM.inj hC i j (by omega) (by omega) e
    · intro i hi
      by_cases e : i = N
      · subst e; simp only [if_true]; exact hR.nil
      · simp only [if_neg e]; exact hM.nil i (by omega)

end Go.Proofs.Ytdcdhdlklppalaa
