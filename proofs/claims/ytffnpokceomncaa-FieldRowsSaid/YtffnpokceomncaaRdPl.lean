
/-
  Rows made less by one another, plainly: what they span stays. No program in sight.
-/
import Derived.Test.YtffnpokceomncaaRkPl
namespace Go.Proofs.Ytffnpokceomncaa
set_option linter.unusedVariables false

theorem isum_reidx {f : Nat → Int} {σ : Nat → Nat} {n : Nat} (hσ : ∀ s, s < n → σ s < n ∧ σ (σ s) = s) : isum (fun i => f (σ i)) n = isum f n := by
  have e1 : isum (fun i => f (σ i)) n = isum (fun i => isum (fun k => if k = σ i then f k else 0) n) n := isum_congr (fun i hi => (isum_pick (g := f) (hσ i hi).1).symm)
  rw [e1, isum_swap]
  refine isum_congr (fun k hk => ?_)
  have : isum (fun i => if k = σ i then f k else 0) n = isum (fun i => if i = σ k then f k else 0) n := isum_congr (fun i hi => by
    by_cases c : k = σ i
    · have : i = σ k := by rw [c, (hσ i hi).2]
      rw [if_pos c, if_pos this]
    · have : ¬ i = σ k := fun e => c (by rw [e, (hσ k hk).2])
      rw [if_neg c, if_neg this])
  rw [this, isum_pick (g := fun _ => f k) (hσ k hk).1]
theorem swp_swp (a b k : Nat) : swp a b (swp a b k) = k := by
  unfold swp
  by_cases c1 : k = a
  · subst c1
    rw [if_pos rfl]
    by_cases c2 : b = k
    · rw [if_pos c2]; exact c2
    · rw [if_neg c2, if_pos rfl]
  · rw [if_neg c1]
    by_cases c2 : k = b
    · subst c2; rw [if_pos rfl, if_pos rfl]
    · rw [if_neg c2, if_neg c1, if_neg c2]
theorem swp_lt {a b k n : Nat} (ha : a < n) (hb : b < n) (hk : k < n) : swp a b k < n := by
  unfold swp
  split
  · exact hb
  · split
    · exact ha
    · exact hk

/-- no row hangs on others -/
def Indep (p C N : Nat) (M : Nat → Nat → Int) : Prop := ∀ a : Nat → Int, (∀ j, j < C → Cg p (isum (fun i => a i * M i j) N) 0) → ∀ i, i < N → Cg p (a i) 0
/-- the same rows, made of one another -/
structure SpEq (p C N : Nat) (M M' : Nat → Nat → Int) : Prop where
  fwd : ∀ i, i < N → InSp p C N M (M' i)
  bwd : ∀ i, i < N → InSp p C N M' (M i)
  ind : Indep p C N M → Indep p C N M'
section
variable {p C N : Nat} {M M' M2 : Nat → Nat → Int}
theorem SpEq.refl (M : Nat → Nat → Int) : SpEq p C N M M := ⟨fun i hi => InSp.mem hi, fun i hi => InSp.mem hi, id⟩
theorem SpEq.trans (h : SpEq p C N M M') (g : SpEq p C N M' M2) : SpEq p C N M M2 :=
  ⟨fun i hi => (g.fwd i hi).trans h.fwd, fun i hi => (h.bwd i hi).trans g.bwd, fun x => g.ind (h.ind x)⟩
theorem SpEq.cg (e : ∀ i j, i < N → j < C → Cg p (M' i j) (M i j)) : SpEq p C N M M' where
  fwd := fun i hi => (InSp.mem hi).cg (fun j hj => e i j hi hj)
  bwd := fun i hi => (InSp.mem hi).cg (fun j hj => (e i j hi hj).symm)
  ind := fun h a ha i hi => h a (fun j hj => (isum_cg (fun k hk => (Cg.refl (a k)).mul (e k j hk hj).symm)).trans (ha j hj)) i hi
theorem SpEq.swap {a b : Nat} (ha : a < N) (hb : b < N) : SpEq p C N M (fun i => M (swp a b i)) where
  fwd := fun i hi => InSp.mem (swp_lt ha hb hi)
  bwd := fun i hi => by
    have := InSp.mem (p := p) (C := C) (R := fun i => M (swp a b i)) (swp_lt ha hb hi)
    simp only [swp_swp] at this
    exact this
  ind := fun h c hc i hi => by
    have := h (fun k => c (swp a b k)) (fun j hj => by
      have e := isum_reidx (f := fun k => c (swp a b k) * M k j) (σ := swp a b) (n := N) (fun s hs => ⟨swp_lt ha hb hs, swp_swp a b s⟩)
      simp only [swp_swp] at e
      rw [← e]
      exact hc j hj) (swp a b i) (swp_lt ha hb hi)
    simp only [swp_swp] at this
    exact this
/-- one row, a unit times itself, and more of another -/
theorem SpEq.more (hp : PrimeP p) {r q : Nat} (hr : r < N) (hq : q < N) (hqr : q ≠ r) {u t : Int} (hu : ¬ Cg p u 0) (he : ∀ i j, i < N → j < C → i ≠ r → Cg p (M' i j) (M i j)) (h : ∀ j, j < C → Cg p (M' r j) (u * M r j + t * M q j)) : SpEq p C N M M' := by
  obtain ⟨u', hu'⟩ := Cg.inv hp hu
  refine ⟨fun i hi => ?_, fun i hi => ?_, fun hI a ha => ?_⟩
  · by_cases c : i = r
    · subst c
      exact (((InSp.mem hi).smul u).add ((InSp.mem hq).smul t)).cg (fun j hj => h j hj)
    · exact (InSp.mem hi).cg (fun j hj => he i j hi hj c)
  · by_cases c : i = r
    · subst c
      refine (((InSp.mem hi).add ((InSp.mem hq).smul (-t))).smul u').cg (R := M') (fun j hj => ?_)
      have h1 := h j hj
      have h2 := he q j hq hj hqr
      have h3 : Cg p (u' * (M' i j + -t * M' q j)) (u' * ((u * M i j + t * M q j) + -t * M q j)) := (Cg.refl u').mul (h1.add ((Cg.refl _).mul h2))
      rw [show u' * ((u * M i j + t * M q j) + -t * M q j) = (u * u') * M i j by grind] at h3
      have h4 := hu'.mul (Cg.refl (M i j))
      rw [Int.one_mul] at h4
      exact (h3.trans h4).symm
    · exact (InSp.mem hi).cg (fun j hj => (he i j hi hj c).symm)
  · have key := hI (fun i => (if i = r then u * a r else a i) + (if i = q then t * a r else 0)) (fun j hj => by
      refine Cg.trans ?_ (ha j hj)
      have e1 : Cg p (isum (fun i => a i * M' i j) N) (isum (fun i => a i * (if i = r then u * M r j + t * M q j else M i j)) N) := isum_cg (fun i hi => by
        by_cases c : i = r
        · subst c; rw [if_pos rfl]; exact (Cg.refl _).mul (h j hj)
        · rw [if_neg c]; exact (Cg.refl _).mul (he i j hi hj c))
      refine Cg.trans (Cg.of_eq ?_) e1.symm
      have e2 : isum (fun i => ((if i = r then u * a r else a i) + (if i = q then t * a r else 0)) * M i j) N = isum (fun i => (if i = r then u * a r else a i) * M i j) N + isum (fun i => if i = q then t * a r * M i j else 0) N := by
        rw [← isum_add]
        exact isum_congr (fun i _ => by split <;> split <;> grind)
      have e3 : isum (fun i => a i * (if i = r then u * M r j + t * M q j else M i j)) N = isum (fun i => (if i = r then u * a r else a i) * M i j) N + isum (fun i => if i = r then a i * (t * M q j) else 0) N := by
        rw [← isum_add]
        refine isum_congr (fun i _ => ?_)
        by_cases c : i = r
        · subst c; rw [if_pos rfl, if_pos rfl, if_pos rfl]; grind
        · rw [if_neg c, if_neg c, if_neg c]; omega
      rw [e2, e3, isum_pick (g := fun i => t * a r * M i j) hq, isum_pick (g := fun i => a i * (t * M q j)) hr]
      grind)
    have h1 := key r hr
    rw [if_pos rfl, if_neg (fun e => hqr e.symm)] at h1
    rw [Int.add_zero, Int.mul_comm] at h1
    have ar := Cg.cancel hp h1 hu
    intro i hi
    by_cases c : i = r
    · rw [c]; exact ar
    · have h2 := key i hi
      rw [if_neg c] at h2
      by_cases d : i = q
      · rw [if_pos d] at h2
        have h3 := h2.sub ((Cg.refl t).mul ar)
        rwa [show a i + t * a r - t * a r = a i by omega, show (0 : Int) - t * 0 = 0 by omega] at h3
      · rw [if_neg d, Int.add_zero] at h2
        exact h2
/-- one row, a unit times itself -/
theorem SpEq.scale (hp : PrimeP p) {r : Nat} (hr : r < N) {u : Int} (hu : ¬ Cg p u 0) (he : ∀ i j, i < N → j < C → i ≠ r → Cg p (M' i j) (M i j)) (h : ∀ j, j < C → Cg p (M' r j) (u * M r j)) : SpEq p C N M M' := by
  obtain ⟨u', hu'⟩ := Cg.inv hp hu
  refine ⟨fun i hi => ?_, fun i hi => ?_, fun hI a ha => ?_⟩
  · by_cases c : i = r
    · subst c
      exact ((InSp.mem hi).smul u).cg (fun j hj => h j hj)
    · exact (InSp.mem hi).cg (fun j hj => he i j hi hj c)
  · by_cases c : i = r
    · subst c
      refine ((InSp.mem hi).smul u').cg (R := M') (fun j hj => ?_)
      have h3 : Cg p (u' * M' i j) (u' * (u * M i j)) := (Cg.refl u').mul (h j hj)
      rw [show u' * (u * M i j) = (u * u') * M i j by grind] at h3
      have h4 := hu'.mul (Cg.refl (M i j))
      rw [Int.one_mul] at h4
      exact (h3.trans h4).symm
    · exact (InSp.mem hi).cg (fun j hj => (he i j hi hj c).symm)
  · have key := hI (fun i => if i = r then u * a r else a i) (fun j hj => by
      refine Cg.trans ?_ (ha j hj)
      refine isum_cg (fun i hi => ?_)
      by_cases c : i = r
      · subst c
        rw [if_pos rfl]
        have := (Cg.refl (a i)).mul (h j hj).symm
        rwa [show a i * (u * M i j) = u * a i * M i j by grind] at this
      · rw [if_neg c]; exact (Cg.refl _).mul (he i j hi hj c).symm)
    have h1 := key r hr
    rw [if_pos rfl, Int.mul_comm] at h1
    have ar := Cg.cancel hp h1 hu
    intro i hi
    by_cases c : i = r
    · rw [c]; exact ar
    · have h2 := key i hi
      rwa [if_neg c] at h2
theorem Indep.row (h : Indep p C N M) (hp : PrimeP p) {r : Nat} (hr : r < N) (hz : ∀ j, j < C → Cg p (M r j) 0) : False := by
  have h1 := h (fun i => if i = r then 1 else 0) (fun j hj => by
    have : isum (fun i => (if i = r then 1 else 0) * M i j) N = M r j := by
      rw [show isum (fun i => (if i = r then (1 : Int) else 0) * M i j) N = isum (fun i => if i = r then M i j else 0) N from isum_congr (fun i _ => by split <;> omega), isum_pick (g := fun i => M i j) hr]
    rw [this]; exact hz j hj) r hr
  rw [if_pos rfl, Cg.zero_iff] at h1
  have := hp.le
  rw [Int.emod_eq_of_lt (by omega) (by omega)] at h1
  omega
end

end Go.Proofs.Ytffnpokceomncaa
