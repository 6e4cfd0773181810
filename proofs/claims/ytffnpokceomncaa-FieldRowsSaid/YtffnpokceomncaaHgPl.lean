
/-
  Rows that are kept if they do not hang on those ahead, plainly. No program in sight.
-/
import Derived.Test.YtffnpokceomncaaGePl
namespace Go.Proofs.Ytffnpokceomncaa
set_option linter.unusedVariables false

/-- of the first q rows these m are kept -/
structure HgS (p C : Nat) (R : Nat → Nat → Int) (q : Nat) (K : Nat → Nat → Int) (L : Nat → Nat) (m : Nat) : Prop where
  lead : ∀ i, i < m → Lead p C (K i) (L i)
  zero : ∀ i k, i < k → k < m → Cg p (K k (L i)) 0
  sp1 : ∀ i, i < m → InSp p C q R (K i)
  sp2 : ∀ i, i < q → InSp p C m K (R i)
/-- row q, made less by the first k of those kept -/
structure HgV (p C : Nat) (R : Nat → Nat → Int) (q : Nat) (K : Nat → Nat → Int) (L : Nat → Nat) (m k : Nat) (v : Nat → Int) : Prop where
  sp : ∃ w, InSp p C m K w ∧ ∀ j, j < C → Cg p (v j) (R q j + w j)
  zero : ∀ i, i < k → Cg p (v (L i)) 0
section
variable {p C q m k : Nat} {R K : Nat → Nat → Int} {L : Nat → Nat} {v : Nat → Int}
theorem HgS.start (p C : Nat) (R K : Nat → Nat → Int) (L : Nat → Nat) : HgS p C R 0 K L 0 := ⟨fun i hi => by omega, fun i k _ hk => by omega, fun i hi => by omega, fun i hi => by omega⟩
theorem HgV.start (R : Nat → Nat → Int) (q : Nat) (K : Nat → Nat → Int) (L : Nat → Nat) (m : Nat) : HgV p C R q K L m 0 (R q) :=
  ⟨⟨fun _ => 0, InSp.zero (fun j _ => Cg.refl _), fun j _ => Cg.of_eq (by simp)⟩, fun i hi => by omega⟩
theorem HgV.step (h : HgV p C R q K L m k v) (H : HgS p C R q K L m) (hk : k < m) {v' : Nat → Int} {f : Int} (e : ∀ j, j < C → Cg p (v' j) (v j + f * K k j)) (h0 : Cg p (v' (L k)) 0) : HgV p C R q K L m (k + 1) v' := by
  obtain ⟨w, hw, he⟩ := h.sp
  refine ⟨⟨fun j => w j + f * K k j, hw.add ((InSp.mem hk).smul f), fun j hj => ?_⟩, fun i hi => ?_⟩
  · refine (e j hj).trans (((he j hj).add (Cg.refl _)).trans (Cg.of_eq (Int.add_assoc _ _ _)))
  · by_cases c : i = k
    · subst c; exact h0
    · have h1 := h.zero i (by omega)
      have h2 := H.zero i k (by omega) hk
      have h3 := h1.add ((Cg.refl f).mul h2)
      rw [Int.mul_zero, Int.add_zero] at h3
      exact (e (L i) (H.lead i (by omega)).lt).trans h3
theorem HgV.back (h : HgV p C R q K L m m v) : ∃ w, InSp p C m K w ∧ ∀ j, j < C → Cg p (R q j) (v j + w j) := by
  obtain ⟨w, hw, he⟩ := h.sp
  refine ⟨fun j => (-1) * w j, hw.smul (-1), fun j hj => ?_⟩
  have h1 := (he j hj).symm.add (Cg.refl ((-1) * w j))
  rwa [show R q j + w j + -1 * w j = R q j by omega] at h1
theorem HgV.none (h : HgV p C R q K L m m v) (H : HgS p C R q K L m) (hz : ∀ j, j < C → Cg p (v j) 0) : HgS p C R (q + 1) K L m where
  lead := H.lead
  zero := H.zero
  sp1 := fun i hi => (H.sp1 i hi).mono (by omega)
  sp2 := fun i hi => by
    by_cases c : i = q
    · subst c
      obtain ⟨w, hw, he⟩ := h.back
      exact hw.cg (fun j hj => (he j hj).trans (((hz j hj).add (Cg.refl _)).trans (Cg.of_eq (by omega))))
    · exact H.sp2 i (by omega)
theorem HgV.keep (h : HgV p C R q K L m m v) (H : HgS p C R q K L m) {l : Nat} (hl : Lead p C v l) : HgS p C R (q + 1) (fun i => if i = m then v else K i) (fun i => if i = m then l else L i) (m + 1) where
  lead := fun i hi => by
    by_cases c : i = m
    · simp only [if_pos c]; exact hl
    · simp only [if_neg c]; exact H.lead i (by omega)
  zero := fun i k hik hk => by
    have hi : ¬ i = m := by omega
    simp only [if_neg hi]
    by_cases c : k = m
    · simp only [if_pos c]; exact h.zero i (by omega)
    · simp only [if_neg c]; exact H.zero i k hik (by omega)
  sp1 := fun i hi => by
    by_cases c : i = m
    · simp only [if_pos c]
      obtain ⟨w, hw, he⟩ := h.sp
      have h1 : InSp p C (q + 1) R w := (hw.trans (fun k hk => H.sp1 k hk)).mono (by omega)
      exact ((InSp.mem (Nat.lt_succ_self q)).add h1).cg he
    · simp only [if_neg c]; exact (H.sp1 i (by omega)).mono (by omega)
  sp2 := fun i hi => by
    have hold : ∀ x, InSp p C m K x → InSp p C (m + 1) (fun i => if i = m then v else K i) x := fun x hx => (hx.trans (fun k hk => by
      have := InSp.mem (p := p) (C := C) (m := m + 1) (R := fun i => if i = m then v else K i) (show k < m + 1 by omega)
      simp only [if_neg (show ¬ k = m by omega)] at this
      exact this))
    by_cases c : i = q
    · subst c
      obtain ⟨w, hw, he⟩ := h.back
      have h1 := InSp.mem (p := p) (C := C) (m := m + 1) (R := fun i => if i = m then v else K i) (Nat.lt_succ_self m)
      simp only [if_true] at h1
      exact (h1.add (hold w hw)).cg he
    · exact hold _ (H.sp2 i (by omega))
theorem HgS.rank (H : HgS p C R q K L m) : RankIs p C q R m := ⟨K, L, ⟨H.lead, fun i k hi hk e => by
  rcases Nat.lt_trichotomy i k with c | c | c
  · have h1 := H.zero i k c hk
    rw [e] at h1
    exact absurd h1 (H.lead k hk).ne
  · exact c
  · have h1 := H.zero k i c hi
    rw [← e] at h1
    exact absurd h1 (H.lead i hi).ne⟩, H.sp1, H.sp2⟩
end

end Go.Proofs.Ytffnpokceomncaa
