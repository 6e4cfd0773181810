
/-
  Rows made less by one another, plainly: what they span stays. No program in sight.
  Flows in a net, plainly: what leads out of a set of places; a way through takes one from each; sets of vertices that bar and sets of places. No program in sight.
  The net of a directed graph; the fewest vertices that bar all ways are as many as the least that a set of places lets out. No program in sight.
-/
import Derived.Test.YtffnpokceomncaaPk18
namespace Go.Proofs.Ytffnpokceomncaa
set_option linter.unusedVariables false

theorem isum_reidx {f : Nat → Int} {σ : Nat → Nat} {n : Nat} (hσ : ∀ s, s < n → σ s < n ∧ σ (σ s) = s) : isum (fun i => f (σ i)) n = isum f n := by
  have e1 : isum (fun i => f (σ i)) n = isum (fun i => isum (fun k => if k = σ i then f k else 0) n) n := isum_congr (fun i hi => (isum_pick (g := f) (hσ i hi).1).symm)
  rw [e1, isum_swap]
  refine isum_congr (fun k hk => ?_)
  have : isum (fun i => if k = σ i then f k else 0) n = isum (fun i => if i = σ k then f k else 0) n := isum_congr (fun i hi => by
    by_cases c : k = σ i
    · have : i = σ k := by rw [c, (hσ i hi).2]
      rw [if_pos c, if_pos this]
    · have : ¬ i = σ k := fun e => c (by rw [e, (hσ k hk).2])
      rw [if_neg c, if_neg this])
  rw [this, isum_pick (g := fun _ => f k) (hσ k hk).1]
theorem swp_swp (a b k : Nat) : swp a b (swp a b k) = k := by
  unfold swp
  by_cases c1 : k = a
  · subst c1
    rw [if_pos rfl]
    by_cases c2 : b = k
    · rw [if_pos c2]; exact c2
    · rw [if_neg c2, if_pos rfl]
  · rw [if_neg c1]
    by_cases c2 : k = b
    · subst c2; rw [if_pos rfl, if_pos rfl]
    · rw [if_neg c2, if_neg c1, if_neg c2]
theorem swp_lt {a b k n : Nat} (ha : a < n) (hb : b < n) (hk : k < n) : swp a b k < n := by
  unfold swp
  split
  · exact hb
  · split
    · exact ha
    · exact hk

/-- no row hangs on others -/
def Indep (p C N : Nat) (M : Nat → Nat → Int) : Prop := ∀ a : Nat → Int, (∀ j, j < C → Cg p (isum (fun i => a i * M i j) N) 0) → ∀ i, i < N → Cg p (a i) 0
/-- the same rows, made of one another -/
structure SpEq (p C N : Nat) (M M' : Nat → Nat → Int) : Prop where
  fwd : ∀ i, i < N → InSp p C N M (M' i)
  bwd : ∀ i, i < N → InSp p C N M' (M i)
  ind : Indep p C N M → Indep p C N M'
section
variable {p C N : Nat} {M M' M2 : Nat → Nat → Int}
theorem SpEq.refl (M : Nat → Nat → Int) : SpEq p C N M M := ⟨fun i hi => InSp.mem hi, fun i hi => InSp.mem hi, id⟩
theorem SpEq.trans (h : SpEq p C N M M') (g : SpEq p C N M' M2) : SpEq p C N M M2 :=
  ⟨fun i hi => (g.fwd i hi).trans h.fwd, fun i hi => (h.bwd i hi).trans g.bwd, fun x => g.ind (h.ind x)⟩
theorem SpEq.cg (e : ∀ i j, i < N → j < C → Cg p (M' i j) (M i j)) : SpEq p C N M M' where
  fwd := fun i hi => (InSp.mem hi).cg (fun j hj => e i j hi hj)
  bwd := fun i hi => (InSp.mem hi).cg (fun j hj => (e i j hi hj).symm)
  ind := fun h a ha i hi => h a (fun j hj => (isum_cg (fun k hk => (Cg.refl (a k)).mul (e k j hk hj).symm)).trans (ha j hj)) i hi
theorem SpEq.swap {a b : Nat} (ha : a < N) (hb : b < N) : SpEq p C N M (fun i => M (swp a b i)) where
  fwd := fun i hi => InSp.mem (swp_lt ha hb hi)
  bwd := fun i hi => by
    have := InSp.mem (p := p) (C := C) (R := fun i => M (swp a b i)) (swp_lt ha hb hi)
    simp only [swp_swp] at this
    exact this
  ind := fun h c hc i hi => by
    have := h (fun k => c (swp a b k)) (fun j hj => by
      have e := isum_reidx (f := fun k => c (swp a b k) * M k j) (σ := swp a b) (n := N) (fun s hs => ⟨swp_lt ha hb hs, swp_swp a b s⟩)
      simp only [swp_swp] at e
      rw [← e]
      exact hc j hj) (swp a b i) (swp_lt ha hb hi)
    simp only [swp_swp] at this
    exact this
/-- one row, a unit times itself, and more of another -/
theorem SpEq.more (hp : PrimeP p) {r q : Nat} (hr : r < N) (hq : q < N) (hqr : q ≠ r) {u t : Int} (hu : ¬ Cg p u 0) (he : ∀ i j, i < N → j < C → i ≠ r → Cg p (M' i j) (M i j)) (h : ∀ j, j < C → Cg p (M' r j) (u * M r j + t * M q j)) : SpEq p C N M M' := by
  obtain ⟨u', hu'⟩ := Cg.inv hp hu
  refine ⟨fun i hi => ?_, fun i hi => ?_, fun hI a ha => ?_⟩
  · by_cases c : i = r
    · subst c
      exact (((InSp.mem hi).smul u).add ((InSp.mem hq).smul t)).cg (fun j hj => h j hj)
    · exact (InSp.mem hi).cg (fun j hj => he i j hi hj c)
  · by_cases c : i = r
    · subst c
      refine (((InSp.mem hi).add ((InSp.mem hq).smul (-t))).smul u').cg (R := M') (fun j hj => ?_)
      have h1 := h j hj
      have h2 := he q j hq hj hqr
      have h3 : Cg p (u' * (M' i j + -t * M' q j)) (u' * ((u * M i j + t * M q j) + -t * M q j)) := (Cg.refl u').mul (h1.add ((Cg.refl _).mul h2))
      rw [show u' * ((u * M i j + t * M q j) + -t * M q j) = (u * u') * M i j by grind] at h3
      have h4 := hu'.mul (Cg.refl (M i j))
      rw [Int.one_mul] at h4
      exact (h3.trans h4).symm
    · exact (InSp.mem hi).cg (fun j hj => (he i j hi hj c).symm)
  · have key := hI (fun i => (if i = r then u * a r else a i) + (if i = q then t * a r else 0)) (fun j hj => by
      refine Cg.trans ?_ (ha j hj)
      have e1 : Cg p (isum (fun i => a i * M' i j) N) (isum (fun i => a i * (if i = r then u * M r j + t * M q j else M i j)) N) := isum_cg (fun i hi => by
        by_cases c : i = r
        · subst c; rw [if_pos rfl]; exact (Cg.refl _).mul (h j hj)
        · rw [if_neg c]; exact (Cg.refl _).mul (he i j hi hj c))
      refine Cg.trans (Cg.of_eq ?_) e1.symm
      have e2 : isum (fun i => ((if i = r then u * a r else a i) + (if i = q then t * a r else 0)) * M i j) N = isum (fun i => (if i = r then u * a r else a i) * M i j) N + isum (fun i => if i = q then t * a r * M i j else 0) N := by
        rw [← isum_add]
        exact isum_congr (fun i _ => by split <;> split <;> grind)
      have e3 : isum (fun i => a i * (if i = r then u * M r j + t * M q j else M i j)) N = isum (fun i => (if i = r then u * a r else a i) * M i j) N + isum (fun i => if i = r then a i * (t * M q j) else 0) N := by
        rw [← isum_add]
        refine isum_congr (fun i _ => ?_)
        by_cases c : i = r
        · subst c; rw [if_pos rfl, if_pos rfl, if_pos rfl]; grind
        · rw [if_neg c, if_neg c, if_neg c]; omega
      rw [e2, e3, isum_pick (g := fun i => t * a r * M i j) hq, isum_pick (g := fun i => a i * (t * M q j)) hr]
      grind)
    have h1 := key r hr
    rw [if_pos rfl, if_neg (fun e => hqr e.symm)] at h1
    rw [Int.add_zero, Int.mul_comm] at h1
    have ar := Cg.cancel hp h1 hu
    intro i hi
    by_cases c : i = r
    · rw [c]; exact ar
    · have h2 := key i hi
      rw [if_neg c] at h2
      by_cases d : i = q
      · rw [if_pos d] at h2
        have h3 := h2.sub ((Cg.refl t).mul ar)
        rwa [show a i + t * a r - t * a r = a i by omega, show (0 : Int) - t * 0 = 0 by omega] at h3
      · rw [if_neg d, Int.add_zero] at h2
        exact h2
/-- one row, a unit times itself -/
theorem SpEq.scale (hp : PrimeP p) {r : Nat} (hr : r < N) {u : Int} (hu : ¬ Cg p u 0) (he : ∀ i j, i < N → j < C → i ≠ r → Cg p (M' i j) (M i j)) (h : ∀ j, j < C → Cg p (M' r j) (u * M r j)) : SpEq p C N M M' := by
  obtain ⟨u', hu'⟩ := Cg.inv hp hu
  refine ⟨fun i hi => ?_, fun i hi => ?_, fun hI a ha => ?_⟩
  · by_cases c : i = r
    · subst c
      exact ((InSp.mem hi).smul u).cg (fun j hj => h j hj)
    · exact (InSp.mem hi).cg (fun j hj => he i j hi hj c)
  · by_cases c : i = r
    · subst c
      refine ((InSp.mem hi).smul u').cg (R := M') (fun j hj => ?_)
      have h3 : Cg p (u' * M' i j) (u' * (u * M i j)) := (Cg.refl u').mul (h j hj)
      rw [show u' * (u * M i j) = (u * u') * M i j by grind] at h3
      have h4 := hu'.mul (Cg.refl (M i j))
      rw [Int.one_mul] at h4
      exact (h3.trans h4).symm
    · exact (InSp.mem hi).cg (fun j hj => (he i j hi hj c).symm)
  · have key := hI (fun i => if i = r then u * a r else a i) (fun j hj => by
      refine Cg.trans ?_ (ha j hj)
      refine isum_cg (fun i hi => ?_)
      by_cases c : i = r
      · subst c
        rw [if_pos rfl]
        have := (Cg.refl (a i)).mul (h j hj).symm
        rwa [show a i * (u * M i j) = u * a i * M i j by grind] at this
      · rw [if_neg c]; exact (Cg.refl _).mul (he i j hi hj c).symm)
    have h1 := key r hr
    rw [if_pos rfl, Int.mul_comm] at h1
    have ar := Cg.cancel hp h1 hu
    intro i hi
    by_cases c : i = r
    · rw [c]; exact ar
    · have h2 := key i hi
      rwa [if_neg c] at h2
theorem Indep.row (h : Indep p C N M) (hp : PrimeP p) {r : Nat} (hr : r < N) (hz : ∀ j, j < C → Cg p (M r j) 0) : False := by
  have h1 := h (fun i => if i = r then 1 else 0) (fun j hj => by
    have : isum (fun i => (if i = r then 1 else 0) * M i j) N = M r j := by
      rw [show isum (fun i => (if i = r then (1 : Int) else 0) * M i j) N = isum (fun i => if i = r then M i j else 0) N from isum_congr (fun i _ => by split <;> omega), isum_pick (g := fun i => M i j) hr]
    rw [this]; exact hz j hj) r hr
  rw [if_pos rfl, Cg.zero_iff] at h1
  have := hp.le
  rw [Int.emod_eq_of_lt (by omega) (by omega)] at h1
  omega
end

end Go.Proofs.Ytffnpokceomncaa

namespace Go.Proofs.Ytffnpokceomncaa
set_option linter.unusedVariables false

/-- what leads from a set of places to the others -/
def capS (N : Nat) (p : Nat → Nat → Int) (S : Nat → Bool) : Int := isum (fun i => isum (fun j => if S i = true ∧ S j = false then p i j else 0) N) N
/-- one entry changed -/
def updM (p : Nat → Nat → Int) (a b : Nat) (d : Int) : Nat → Nat → Int := fun i j => if i = a ∧ j = b then p i j + d else p i j
theorem updM_at (p : Nat → Nat → Int) (a b : Nat) (d : Int) : updM p a b d a b = p a b + d := by unfold updM; rw [if_pos ⟨rfl, rfl⟩]
theorem updM_ne (p : Nat → Nat → Int) {a b i j : Nat} (d : Int) (h : ¬ (i = a ∧ j = b)) : updM p a b d i j = p i j := by unfold updM; rw [if_neg h]
def bti (b : Bool) : Int := if b = true then 1 else 0

theorem capS_upd {N : Nat} (p : Nat → Nat → Int) (S : Nat → Bool) {a b : Nat} (d : Int) (ha : a < N) (hb : b < N) :
    capS N (updM p a b d) S = capS N p S + if S a = true ∧ S b = false then d else 0 := by
  have e : ∀ i, i < N → isum (fun j => if S i = true ∧ S j = false then updM p a b d i j else 0) N = isum (fun j => if S i = true ∧ S j = false then p i j else 0) N + (if i = a then (if S a = true ∧ S b = false then d else 0) else 0) := by
    intro i hi
    by_cases c : i = a
    · subst c
      rw [if_pos rfl]
      rw [← isum_pick (g := fun _ => if S i = true ∧ S b = false then d else 0) hb, ← isum_add]
      refine isum_congr fun j hj => ?_
      by_cases cb : j = b
      · subst cb
        rw [if_pos rfl, updM_at]
        split <;> omega
      · rw [if_neg cb, updM_ne _ _ (by rintro ⟨_, h⟩; exact cb h)]; omega
    · rw [if_neg c]
      rw [isum_congr (fun j hj => by rw [updM_ne p (a := a) (b := b) (i := i) (j := j) d (by rintro ⟨h, _⟩; exact c h)])]
      omega
  unfold capS
  rw [isum_congr e, isum_add, isum_pick (g := fun _ => if S a = true ∧ S b = false then d else 0) ha]

/-- one step of a way: one less there, one more back -/
def stepM (p : Nat → Nat → Int) (a b : Nat) : Nat → Nat → Int := updM (updM p a b (-1)) b a 1
theorem capS_step {N : Nat} (p : Nat → Nat → Int) (S : Nat → Bool) {a b : Nat} (ha : a < N) (hb : b < N) :
    capS N (stepM p a b) S = capS N p S - bti (S a) + bti (S b) := by
  unfold stepM
  rw [capS_upd _ _ _ hb ha, capS_upd _ _ _ ha hb]
  unfold bti
  cases S a <;> cases S b <;> simp <;> omega
theorem isum_nonneg {f : Nat → Int} {n : Nat} (h : ∀ i, i < n → 0 ≤ f i) : 0 ≤ isum f n := by
  induction n with
  | zero => exact Int.le_refl _
  | succ n ih =>
    have h1 := ih (fun i hi => h i (by omega))
    have h2 := h n (by omega)
    simp only [isum]; omega
theorem isum_mono {f g : Nat → Int} {n : Nat} (h : ∀ i, i < n → f i ≤ g i) : isum f n ≤ isum g n := by
  induction n with
  | zero => exact Int.le_refl _
  | succ n ih =>
    have h1 := ih (fun i hi => h i (by omega))
    have h2 := h n (by omega)
    simp only [isum]; omega
theorem isum_ge_one {f : Nat → Int} {n k : Nat} (h : ∀ i, i < n → 0 ≤ f i) (hk : k < n) : f k ≤ isum f n := by
  induction n with
  | zero => omega
  | succ n ih =>
    have h2 := h n (by omega)
    simp only [isum]
    by_cases c : k = n
    · subst c
      have := isum_nonneg (f := f) (n := k) (fun i hi => h i (by omega))
      omega
    · have h1 := ih (fun i hi => h i (by omega)) (by omega)
      omega
theorem capS_nonneg {N : Nat} {p : Nat → Nat → Int} (S : Nat → Bool) (h : ∀ i j, i < N → j < N → 0 ≤ p i j) : 0 ≤ capS N p S :=
  isum_nonneg fun i hi => isum_nonneg fun j hj => by split <;> first | exact h i j hi hj | exact Int.le_refl _
theorem capS_closed {N : Nat} {p : Nat → Nat → Int} {S : Nat → Bool} (h : ∀ i j, i < N → j < N → S i = true → 0 < p i j → S j = true) : capS N p S ≤ 0 := by
  have : capS N p S ≤ isum (fun _ => 0) N := isum_mono fun i hi => by
    have h2 : isum (fun j => if S i = true ∧ S j = false then p i j else 0) N ≤ isum (fun _ => 0) N := isum_mono fun j hj => by
      split
      case isTrue c =>
        apply Classical.byContradiction
        intro g
        have := h i j hi hj c.1 (by omega)
        rw [c.2] at this; cases this
      case isFalse c => exact Int.le_refl _
    rw [isum_zero (fun _ _ => rfl)] at h2
    exact h2
  rw [isum_zero (fun _ _ => rfl)] at this
  exact this

/-- a number that some set of places with the beginning and without the end lets out, and none less -/
def MinCut (N : Nat) (p : Nat → Nat → Int) (n : Int) : Prop := (∃ S : Nat → Bool, S 0 = true ∧ S 1 = false ∧ capS N p S = n) ∧ ∀ S : Nat → Bool, S 0 = true → S 1 = false → n ≤ capS N p S
/-- after n ways through nothing goes through any more -/
theorem minCut_of {N : Nat} {p0 p : Nat → Nat → Int} {n : Int} (hnn : ∀ i j, i < N → j < N → 0 ≤ p i j)
    (hcap : ∀ S : Nat → Bool, S 0 = true → S 1 = false → capS N p S = capS N p0 S - n)
    (S : Nat → Bool) (h0 : S 0 = true) (h1 : S 1 = false) (hcl : ∀ i j, i < N → j < N → S i = true → 0 < p i j → S j = true) : MinCut N p0 n := by
  have a := capS_closed hcl
  have b := capS_nonneg S hnn
  refine ⟨⟨S, h0, h1, ?_⟩, fun T t0 t1 => ?_⟩
  · have := hcap S h0 h1; omega
  · have c := capS_nonneg T hnn
    have := hcap T t0 t1; omega
theorem MinCut.uniq {N : Nat} {p : Nat → Nat → Int} {n k : Int} (h : MinCut N p n) (g : MinCut N p k) : n = k := by
  obtain ⟨⟨S, s0, s1, e⟩, l⟩ := h
  obtain ⟨⟨T, t0, t1, e'⟩, l'⟩ := g
  have := l T t0 t1
  have := l' S s0 s1
  omega

/-! ### a search -/
/-- what a search has found: a list of places, each behind the first reached from one ahead of it; all that the first d of it reach is in it, and of the next one what is below k -/
structure Bfs (N : Nat) (p : Nat → Nat → Int) (Q : List Nat) (C : Nat → Int) (d k : Nat) : Prop where
  pos : 0 < Q.length
  first : Q.getD 0 0 = 0
  lt : ∀ i, i < Q.length → Q.getD i 0 < N
  had : ∀ v, v < N → (0 ≤ C v ↔ v ∈ Q)
  back : ∀ i, 0 < i → i < Q.length → ∃ j, j < i ∧ C (Q.getD i 0) = (Q.getD j 0 : Int) ∧ 0 < p (Q.getD j 0) (Q.getD i 0)
  inj : ∀ i j, i < j → j < Q.length → Q.getD i 0 ≠ Q.getD j 0
  done : ∀ j, j < d → ∀ v, v < N → 0 < p (Q.getD j 0) v → v ∈ Q
  now : ∀ v, v < k → v < N → 0 < p (Q.getD d 0) v → v ∈ Q

theorem getD_snoc_lt {Q : List Nat} {x i : Nat} (h : i < Q.length) : (Q ++ [x]).getD i 0 = Q.getD i 0 := by
  rw [List.getD_eq_getElem?_getD, List.getD_eq_getElem?_getD, List.getElem?_append_left h]
theorem getD_snoc_eq (Q : List Nat) (x : Nat) : (Q ++ [x]).getD Q.length 0 = x := by simp
theorem mem_getD {Q : List Nat} {i : Nat} (h : i < Q.length) : Q.getD i 0 ∈ Q := by
  have : Q.getD i 0 = Q[i] := by simp [h]
  rw [this]; exact List.getElem_mem h
theorem getD_of_mem {Q : List Nat} {x : Nat} (h : x ∈ Q) : ∃ i, i < Q.length ∧ Q.getD i 0 = x := by
  obtain ⟨i, hi, e⟩ := List.mem_iff_getElem.1 h
  exact ⟨i, hi, by simp [hi, e]⟩

/-- distinct numbers below N are at most N -/
theorem inj_len : ∀ (N : Nat) (f : Nat → Nat) (n : Nat), (∀ i, i < n → f i < N) → (∀ i j, i < j → j < n → f i ≠ f j) → n ≤ N := by
  intro N
  induction N with
  | zero =>
    intro f n h _
    cases n with
    | zero => exact Nat.le_refl _
    | succ n => have := h 0 (by omega); omega
  | succ N ih =>
    intro f n h hi
    by_cases c : ∃ k, k < n ∧ f k = N
    · obtain ⟨k, hk, ek⟩ := c
      cases n with
      | zero => omega
      | succ n =>
        -- leave k out
        have h2 := ih (fun i => if i < k then f i else f (i + 1)) n ?_ ?_
        · omega
        · intro i hin
          show (if i < k then f i else f (i + 1)) < N
          split
          case isTrue c =>
            have := h i (by omega)
            have := hi i k c hk
            omega
          case isFalse c =>
            have := h (i + 1) (by omega)
            have := hi k (i + 1) (by omega) (by omega)
            omega
        · intro i j hij hj
          show (if i < k then f i else f (i + 1)) ≠ (if j < k then f j else f (j + 1))
          split <;> split <;> first | exact hi _ _ (by omega) (by omega) | omega
    · have := ih f n (fun i hi' => by
        have h1 := h i hi'
        have h2 : f i ≠ N := fun e => c ⟨i, hi', e⟩
        omega) hi
      omega
theorem Bfs.len {N p Q C d k} (h : Bfs N p Q C d k) : Q.length ≤ N := inj_len N (fun i => Q.getD i 0) Q.length h.lt h.inj

theorem Bfs.start {N : Nat} (hN : 0 < N) (p : Nat → Nat → Int) (C : Nat → Int) (hC : ∀ v, v < N → C v = if v = 0 then 0 else -1) : Bfs N p [0] C 0 0 where
  pos := by simp
  first := rfl
  lt := fun i hi => by simp at hi; subst hi; exact hN
  had := fun v hv => by
    rw [hC v hv]
    by_cases e : v = 0
    · simp [e]
    · simp [e]
  back := fun i h0 hi => by simp at hi; omega
  inj := fun i j hij hj => by simp at hj; omega
  done := fun j hj => by omega
  now := fun v hv => by omega
/-- the next place is had already, or isn't reached -/
theorem Bfs.skip {N p Q C d k} (h : Bfs N p Q C d k) (hk : k < N) (g : ¬ (0 < p (Q.getD d 0) k ∧ C k < 0)) : Bfs N p Q C d (k + 1) :=
  ⟨h.pos, h.first, h.lt, h.had, h.back, h.inj, h.done, fun v hv hvN hp => by
    by_cases e : v = k
    · subst e
      apply Classical.byContradiction
      intro c
      apply g
      refine ⟨hp, ?_⟩
      have := mt (h.had v hvN).1 c
      omega
    · exact h.now v (by omega) hvN hp⟩
/-- it is found -/
theorem Bfs.find {N p Q C d k} (h : Bfs N p Q C d k) (hd : d < Q.length) (hk : k < N) (g1 : 0 < p (Q.getD d 0) k) (g2 : C k < 0) {C' : Nat → Int} (hC : ∀ v, v < N → C' v = if v = k then (Q.getD d 0 : Int) else C v) :
    Bfs N p (Q ++ [k]) C' d (k + 1) := by
  have hnk : k ∉ Q := fun c => by have := (h.had k hk).2 c; omega
  have hne : ∀ i, i < Q.length → Q.getD i 0 ≠ k := fun i hi e => hnk (e ▸ mem_getD hi)
  refine ⟨by simp, by rw [getD_snoc_lt h.pos]; exact h.first, fun i hi => ?_, fun v hv => ?_, fun i h0 hi => ?_, fun i j hij hj => ?_, fun j hj v hv hp => ?_, fun v hv hvN hp => ?_⟩
  · simp at hi
    by_cases c : i < Q.length
    · rw [getD_snoc_lt c]; exact h.lt i c
    · have : i = Q.length := by omega
      subst this
      rw [getD_snoc_eq]; exact hk
  · rw [hC v hv]
    by_cases e : v = k
    · subst e
      rw [if_pos rfl]
      simp
    · rw [if_neg e, h.had v hv]
      simp [e]
  · simp at hi
    by_cases c : i < Q.length
    · obtain ⟨j, h1, h2, h3⟩ := h.back i h0 c
      refine ⟨j, h1, ?_⟩
      rw [getD_snoc_lt c, getD_snoc_lt (by omega : j < Q.length), hC _ (h.lt i c), if_neg (hne i c)]
      exact ⟨h2, h3⟩
    · have : i = Q.length := by omega
      subst this
      refine ⟨d, hd, ?_⟩
      rw [getD_snoc_eq, getD_snoc_lt hd, hC k hk, if_pos rfl]
      exact ⟨rfl, g1⟩
  · simp at hj
    rw [getD_snoc_lt (by omega : i < Q.length)]
    by_cases c : j < Q.length
    · rw [getD_snoc_lt c]; exact h.inj i j hij c
    · have : j = Q.length := by omega
      subst this
      rw [getD_snoc_eq]; exact hne i hij
  · rw [getD_snoc_lt (by omega : j < Q.length)] at hp
    exact List.mem_append_left _ (h.done j hj v hv hp)
  · rw [getD_snoc_lt hd] at hp
    by_cases e : v = k
    · subst e; simp
    · exact List.mem_append_left _ (h.now v (by omega) hvN hp)
theorem Bfs.next {N p Q C d} (h : Bfs N p Q C d N) : Bfs N p Q C (d + 1) 0 :=
  ⟨h.pos, h.first, h.lt, h.had, h.back, h.inj, fun j hj v hv hp => by
    by_cases e : j = d
    · subst e; exact h.now v hv hv hp
    · exact h.done j (by omega) v hv hp, fun v hv => by omega⟩
/-- the end isn't found -/
theorem Bfs.none {N p Q C d k} (h : Bfs N p Q C d k) (hN : 1 < N) (hd : d = Q.length) (h1 : C 1 < 0) {p0 : Nat → Nat → Int} {n : Int} (hnn : ∀ i j, i < N → j < N → 0 ≤ p i j)
    (hcap : ∀ S : Nat → Bool, S 0 = true → S 1 = false → capS N p S = capS N p0 S - n) : MinCut N p0 n := by
  refine minCut_of hnn hcap (fun v => decide (v ∈ Q)) ?_ ?_ ?_
  · have := mem_getD h.pos
    rw [h.first] at this
    simpa using this
  · have : ¬ 1 ∈ Q := fun c => by have := (h.had 1 hN).2 c; omega
    simpa using this
  · intro i j hi hj hs hp
    simp at hs
    obtain ⟨x, hx, e⟩ := getD_of_mem hs
    rw [← e] at hp
    simpa using h.done x (by omega) j hj hp

/-- on the way back: what has been taken so far -/
structure Back (N : Nat) (p0 : Nat → Nat → Int) (Q : List Nat) (C : Nat → Int) (i : Nat) (p : Nat → Nat → Int) : Prop where
  lt : i < Q.length
  nn : ∀ a b, a < N → b < N → 0 ≤ p a b
  left : ∀ k, 0 < k → k ≤ i → ∀ a, a < N → C (Q.getD k 0) = (a : Int) → 1 ≤ p a (Q.getD k 0)
  cap : ∀ S : Nat → Bool, capS N p S = capS N p0 S - bti (S (Q.getD i 0)) + bti (S 1)
theorem Bfs.turn {N p Q C d k} (h : Bfs N p Q C d k) (hnn : ∀ i j, i < N → j < N → 0 ≤ p i j) {i : Nat} (hi : i < Q.length) (h1 : Q.getD i 0 = 1) : Back N p Q C i p where
  lt := hi
  nn := hnn
  left := fun k h0 hk a ha hc => by
    obtain ⟨j, g1, g2, g3⟩ := h.back k h0 (by omega)
    rw [g2] at hc
    have : Q.getD j 0 = a := by omega
    rw [this] at g3
    omega
  cap := fun S => by rw [h1]; omega
/-- one step back -/
theorem Back.step {N p0 Q C d k0 i p} (b : Back N p0 Q C i p) (h : Bfs N p0 Q C d k0) (h0 : 0 < i) : ∃ j, j < i ∧ C (Q.getD i 0) = (Q.getD j 0 : Int) ∧ Back N p0 Q C j (stepM p (Q.getD j 0) (Q.getD i 0)) := by
  obtain ⟨j, g1, g2, g3⟩ := h.back i h0 b.lt
  have hj : j < Q.length := by have := b.lt; omega
  have la := h.lt j hj
  have lb := h.lt i b.lt
  have hne := h.inj j i g1 b.lt
  have hone := b.left i h0 (Nat.le_refl _) _ la g2
  refine ⟨j, g1, g2, hj, fun x y hx hy => ?_, fun k hk0 hk a ha hc => ?_, fun S => ?_⟩
  · unfold stepM
    have := b.nn x y hx hy
    by_cases c : x = Q.getD i 0 ∧ y = Q.getD j 0
    · obtain ⟨rfl, rfl⟩ := c
      rw [updM_at, updM_ne _ _ (by rintro ⟨e, _⟩; exact hne e.symm)]
      omega
    · rw [updM_ne _ _ c]
      by_cases c2 : x = Q.getD j 0 ∧ y = Q.getD i 0
      · obtain ⟨rfl, rfl⟩ := c2
        rw [updM_at]; omega
      · rw [updM_ne _ _ c2]; exact this
  · have hl := b.left k hk0 (by omega) a ha hc
    have hki := h.inj k i (by omega) b.lt
    unfold stepM
    by_cases c : a = Q.getD i 0 ∧ Q.getD k 0 = Q.getD j 0
    · obtain ⟨rfl, e⟩ := c
      rw [e, updM_at, updM_ne _ _ (by rintro ⟨e, _⟩; exact hne e.symm)]
      rw [e] at hl
      omega
    · rw [updM_ne _ _ c, updM_ne _ _ (by rintro ⟨_, e⟩; exact hki e)]
      exact hl
  · unfold stepM
    have := capS_step p S la lb
    unfold stepM at this
    rw [this, b.cap S]
    omega

end Go.Proofs.Ytffnpokceomncaa

namespace Go.Proofs.Ytffnpokceomncaa
set_option linter.unusedVariables false

def setM (p : Nat → Nat → Int) (a b : Nat) (x : Int) : Nat → Nat → Int := fun i j => if i = a ∧ j = b then x else p i j
/-- a net's vertices, one behind the other -/
def netV (fr to : Nat) : Nat → Nat → Nat → Int
  | 0 => fun _ _ => 0
  | k + 1 => setM (setM (setM (netV fr to k) (2 + 2 * k) (3 + 2 * k) 1) 0 (2 + 2 * k) (bti (fr.testBit k))) (3 + 2 * k) 1 (bti (to.testBit k))
/-- and its edges -/
def netE (es : List (Int × Int)) (p : Nat → Nat → Int) : Nat → Nat → Nat → Int
  | 0 => p
  | k + 1 => setM (netE es p k) (3 + 2 * (es.getD k (0,0)).1.toNat) (2 + 2 * (es.getD k (0,0)).2.toNat) 1
def net (n : Nat) (es : List (Int × Int)) (fr to : Nat) : Nat → Nat → Int := netE es (netV fr to n) es.length

def Edge (es : List (Int × Int)) (u v : Nat) : Prop := ∃ k, k < es.length ∧ (es.getD k (0,0)).1.toNat = u ∧ (es.getD k (0,0)).2.toNat = v

theorem netV_fst (fr to : Nat) : ∀ k v, netV fr to k 0 (2 + 2 * v) = if v < k then bti (fr.testBit v) else 0 := by
  intro k
  induction k with
  | zero => intro v; rw [if_neg (by omega)]; rfl
  | succ k ih =>
    intro v
    simp only [netV, setM]
    rw [if_neg (by omega)]
    by_cases c : v = k
    · subst c; rw [if_pos (by simp), if_pos (by omega)]
    · rw [if_neg (by omega), if_neg (by omega), ih v]
      by_cases c2 : v < k
      · rw [if_pos c2, if_pos (by omega)]
      · rw [if_neg c2, if_neg (by omega)]
theorem netV_mid (fr to : Nat) : ∀ k v, netV fr to k (2 + 2 * v) (3 + 2 * v) = if v < k then 1 else 0 := by
  intro k
  induction k with
  | zero => intro v; rw [if_neg (by omega)]; rfl
  | succ k ih =>
    intro v
    simp only [netV, setM]
    rw [if_neg (by omega), if_neg (by omega)]
    by_cases c : v = k
    · subst c; rw [if_pos ⟨rfl, rfl⟩, if_pos (by omega)]
    · rw [if_neg (by omega), ih v]
      by_cases c2 : v < k
      · rw [if_pos c2, if_pos (by omega)]
      · rw [if_neg c2, if_neg (by omega)]
theorem netV_last (fr to : Nat) : ∀ k v, netV fr to k (3 + 2 * v) 1 = if v < k then bti (to.testBit v) else 0 := by
  intro k
  induction k with
  | zero => intro v; rw [if_neg (by omega)]; rfl
  | succ k ih =>
    intro v
    simp only [netV, setM]
    by_cases c : v = k
    · subst c; rw [if_pos (by simp), if_pos (by omega)]
    · rw [if_neg (by omega), if_neg (by omega), if_neg (by omega), ih v]
      by_cases c2 : v < k
      · rw [if_pos c2, if_pos (by omega)]
      · rw [if_neg c2, if_neg (by omega)]
theorem bti_01 (b : Bool) : bti b = 0 ∨ bti b = 1 := by cases b <;> simp [bti]
theorem netV_01 (fr to : Nat) : ∀ k i j, netV fr to k i j = 0 ∨ netV fr to k i j = 1 := by
  intro k
  induction k with
  | zero => intro i j; exact .inl rfl
  | succ k ih =>
    intro i j
    simp only [netV, setM]
    split
    · exact bti_01 _
    · split
      · exact bti_01 _
      · split
        · exact .inr rfl
        · exact ih i j
/-- where a net leads without edges -/
theorem netV_supp (fr to : Nat) : ∀ k i j, netV fr to k i j ≠ 0 → (∃ v, v < k ∧ i = 0 ∧ j = 2 + 2 * v ∧ fr.testBit v = true) ∨ (∃ v, v < k ∧ i = 2 + 2 * v ∧ j = 3 + 2 * v) ∨ (∃ v, v < k ∧ i = 3 + 2 * v ∧ j = 1 ∧ to.testBit v = true) := by
  intro k
  induction k with
  | zero => intro i j h; exact absurd rfl h
  | succ k ih =>
    intro i j h
    simp only [netV, setM] at h
    split at h
    case isTrue c =>
      refine .inr (.inr ⟨k, by omega, c.1, c.2, ?_⟩)
      unfold bti at h
      cases hb : to.testBit k
      · rw [hb] at h; exact absurd rfl h
      · rfl
    case isFalse c =>
      split at h
      case isTrue c2 =>
        refine .inl ⟨k, by omega, c2.1, c2.2, ?_⟩
        unfold bti at h
        cases hb : fr.testBit k
        · rw [hb] at h; exact absurd rfl h
        · rfl
      case isFalse c2 =>
        split at h
        case isTrue c3 => exact .inr (.inl ⟨k, by omega, c3.1, c3.2⟩)
        case isFalse c3 =>
          rcases ih i j h with ⟨v, h1, h2⟩ | ⟨v, h1, h2⟩ | ⟨v, h1, h2⟩
          · exact .inl ⟨v, by omega, h2⟩
          · exact .inr (.inl ⟨v, by omega, h2⟩)
          · exact .inr (.inr ⟨v, by omega, h2⟩)
theorem netE_keep (es : List (Int × Int)) (p : Nat → Nat → Int) {i j : Nat} (h : ¬ (∃ u v, i = 3 + 2 * u ∧ j = 2 + 2 * v)) : ∀ k, netE es p k i j = p i j := by
  intro k
  induction k with
  | zero => rfl
  | succ k ih =>
    simp only [netE, setM]
    rw [if_neg (fun c => h ⟨_, _, c.1, c.2⟩), ih]
theorem netE_edge (es : List (Int × Int)) (p : Nat → Nat → Int) (hp : ∀ u v, p (3 + 2 * u) (2 + 2 * v) = 0) : ∀ k u v, (netE es p k (3 + 2 * u) (2 + 2 * v) = 1 ∧ ∃ i, i < k ∧ (es.getD i (0,0)).1.toNat = u ∧ (es.getD i (0,0)).2.toNat = v) ∨ (netE es p k (3 + 2 * u) (2 + 2 * v) = 0 ∧ ¬ ∃ i, i < k ∧ (es.getD i (0,0)).1.toNat = u ∧ (es.getD i (0,0)).2.toNat = v) := by
  intro k
  induction k with
  | zero => intro u v; exact .inr ⟨hp u v, by rintro ⟨i, hi, _⟩; omega⟩
  | succ k ih =>
    intro u v
    simp only [netE, setM]
    by_cases c : 3 + 2 * u = 3 + 2 * (es.getD k (0,0)).1.toNat ∧ 2 + 2 * v = 2 + 2 * (es.getD k (0,0)).2.toNat
    · rw [if_pos c]
      exact .inl ⟨rfl, k, by omega, by omega, by omega⟩
    · rw [if_neg c]
      rcases ih u v with ⟨h1, i, h2, h3⟩ | ⟨h1, h2⟩
      · exact .inl ⟨h1, i, by omega, h3⟩
      · refine .inr ⟨h1, ?_⟩
        rintro ⟨i, hi, e1, e2⟩
        by_cases e : i = k
        · subst e; exact c ⟨by omega, by omega⟩
        · exact h2 ⟨i, by omega, e1, e2⟩
theorem netV_edge (fr to k u v : Nat) : netV fr to k (3 + 2 * u) (2 + 2 * v) = 0 := by
  apply Classical.byContradiction
  intro h
  rcases netV_supp fr to k _ _ h with ⟨w, _, h1, _⟩ | ⟨w, _, h1, h2⟩ | ⟨w, _, h1, h2, _⟩ <;> omega
theorem net_edge (n : Nat) (es : List (Int × Int)) (fr to u v : Nat) : (net n es fr to (3 + 2 * u) (2 + 2 * v) = 1 ∧ Edge es u v) ∨ (net n es fr to (3 + 2 * u) (2 + 2 * v) = 0 ∧ ¬ Edge es u v) :=
  netE_edge es _ (netV_edge fr to n) es.length u v
theorem net_keep (n : Nat) (es : List (Int × Int)) (fr to : Nat) {i j : Nat} (h : ¬ (∃ u v, i = 3 + 2 * u ∧ j = 2 + 2 * v)) : net n es fr to i j = netV fr to n i j := netE_keep es _ h _
theorem net_01 (n : Nat) (es : List (Int × Int)) (fr to i j : Nat) : net n es fr to i j = 0 ∨ net n es fr to i j = 1 := by
  by_cases h : ∃ u v, i = 3 + 2 * u ∧ j = 2 + 2 * v
  · obtain ⟨u, v, rfl, rfl⟩ := h
    rcases net_edge n es fr to u v with ⟨h, _⟩ | ⟨h, _⟩
    · exact .inr h
    · exact .inl h
  · rw [net_keep n es fr to h]; exact netV_01 fr to n i j
theorem net_supp {n : Nat} {es : List (Int × Int)} {fr to i j : Nat} (h : net n es fr to i j ≠ 0) : (∃ v, v < n ∧ i = 0 ∧ j = 2 + 2 * v ∧ fr.testBit v = true) ∨ (∃ v, v < n ∧ i = 2 + 2 * v ∧ j = 3 + 2 * v) ∨ (∃ v, v < n ∧ i = 3 + 2 * v ∧ j = 1 ∧ to.testBit v = true) ∨ ∃ u v, i = 3 + 2 * u ∧ j = 2 + 2 * v ∧ Edge es u v := by
  by_cases c : ∃ u v, i = 3 + 2 * u ∧ j = 2 + 2 * v
  · obtain ⟨u, v, rfl, rfl⟩ := c
    rcases net_edge n es fr to u v with ⟨h1, h2⟩ | ⟨h1, h2⟩
    · exact .inr (.inr (.inr ⟨u, v, rfl, rfl, h2⟩))
    · exact absurd h1 h
  · rw [net_keep n es fr to c] at h
    rcases netV_supp fr to n i j h with h | h | h
    · exact .inl h
    · exact .inr (.inl h)
    · exact .inr (.inr (.inl h))

/-- what is reached from some vertices without others -/
inductive Rch (E : Nat → Nat → Prop) (fr gone : Nat) : Nat → Prop
  | base {v : Nat} : fr.testBit v = true → gone.testBit v = false → Rch E fr gone v
  | step {u v : Nat} : Rch E fr gone u → E u v → gone.testBit v = false → Rch E fr gone v
theorem Rch.free {E : Nat → Nat → Prop} {fr gone v : Nat} (h : Rch E fr gone v) : gone.testBit v = false := by cases h <;> assumption
theorem Rch.lt {E : Nat → Nat → Prop} {fr gone n v : Nat} (hfr : ∀ v, fr.testBit v = true → v < n) (hE : ∀ u v, E u v → v < n) (h : Rch E fr gone v) : v < n := by
  cases h
  · exact hfr _ (by assumption)
  · exact hE _ _ (by assumption)
/-- does a set of vertices bar all ways? -/
def Bars (E : Nat → Nat → Prop) (fr to s : Nat) : Prop := ∀ v, Rch E fr s v → to.testBit v = false

theorem isum_pair (g : Nat → Int) (n : Nat) : isum g (2 + 2 * n) = g 0 + g 1 + isum (fun v => g (2 + 2 * v) + g (3 + 2 * v)) n := by
  induction n with
  | zero => simp [isum]
  | succ n ih =>
    have : isum g (2 + 2 * (n + 1)) = isum g (2 + 2 * n) + g (2 + 2 * n) + g (3 + 2 * n) := by
      rw [show 2 + 2 * (n + 1) = (2 + 2 * n) + 1 + 1 by omega]
      show isum g (2 + 2 * n) + g (2 + 2 * n) + g (2 + 2 * n + 1) = _
      rw [show 2 + 2 * n + 1 = 3 + 2 * n by omega]
    rw [this, ih]
    simp only [isum]
    omega
theorem elemsTo_isum (s : Nat) : ∀ k, ((elemsTo s k).length : Int) = isum (fun v => bti (s.testBit v)) k := by
  intro k
  induction k with
  | zero => rfl
  | succ k ih =>
    rw [elemsTo_step]
    have e : isum (fun v => bti (s.testBit v)) (k + 1) = isum (fun v => bti (s.testBit v)) k + bti (s.testBit k) := rfl
    rw [e, ← ih]
    cases h : s.testBit k
    · have e2 : bti false = 0 := rfl
      rw [if_neg (by decide), e2]; omega
    · have e2 : bti true = 1 := rfl
      rw [if_pos rfl, e2, List.length_append]
      simp
theorem sz_isum {n s : Nat} (hn : n ≤ 8) (hs : ∀ v, s.testBit v = true → v < n) : (sz s : Int) = isum (fun v => bti (s.testBit v)) n := by
  have : sz s = (elemsTo s 8).length := rfl
  rw [this, elemsTo_isum, isum_tail (fun j h1 h2 => by
    cases h : s.testBit j
    · rfl
    · have := hs j h; omega) hn]

theorem cut_of_bars {n : Nat} (hn : n ≤ 8) {es : List (Int × Int)} {fr to s : Nat} (hs : ∀ v, s.testBit v = true → v < n) (h : Bars (Edge es) fr to s) :
    ∃ S : Nat → Bool, S 0 = true ∧ S 1 = false ∧ capS (2 + 2 * n) (net n es fr to) S ≤ sz s := by
  classical
  let R : Nat → Prop := Rch (Edge es) fr s
  let X : Nat → Prop := fun v => fr.testBit v = true ∨ ∃ u, R u ∧ Edge es u v
  let S : Nat → Bool := fun i => decide (i = 0 ∨ (2 ≤ i ∧ i % 2 = 0 ∧ X ((i - 2) / 2)) ∨ (3 ≤ i ∧ i % 2 = 1 ∧ R ((i - 3) / 2)))
  have S0 : S 0 = true := by simp [S]
  have S1 : S 1 = false := by simp [S]
  have SX : ∀ v, S (2 + 2 * v) = true ↔ X v := fun v => by
    have e : (2 + 2 * v - 2) / 2 = v := by omega
    simp only [S, decide_eq_true_eq, e]
    constructor
    · rintro (h | ⟨_, _, h⟩ | ⟨_, h, _⟩)
      · omega
      · exact h
      · omega
    · intro h; exact .inr (.inl ⟨by omega, by omega, h⟩)
  have SR : ∀ v, S (3 + 2 * v) = true ↔ R v := fun v => by
    have e : (3 + 2 * v - 3) / 2 = v := by omega
    simp only [S, decide_eq_true_eq, e]
    constructor
    · rintro (h | ⟨_, h, _⟩ | ⟨_, _, h⟩)
      · omega
      · omega
      · exact h
    · intro h; exact .inr (.inr ⟨by omega, by omega, h⟩)
  refine ⟨S, S0, S1, ?_⟩
  have key : ∀ i, (isum (fun j => if S i = true ∧ S j = false then net n es fr to i j else 0) (2 + 2 * n)) ≤ (if ∃ v, i = 2 + 2 * v ∧ s.testBit v = true then 1 else 0) := by
    intro i
    have hterm : ∀ j, j < 2 + 2 * n → (if S i = true ∧ S j = false then net n es fr to i j else 0) ≤ (if j = i + 1 then (if ∃ v, i = 2 + 2 * v ∧ s.testBit v = true then 1 else 0) else 0 : Int) := by
      intro j hj
      by_cases c : S i = true ∧ S j = false
      · rw [if_pos c]
        by_cases z : net n es fr to i j = 0
        · rw [z]; repeat' split
          all_goals omega
        · have z1 : net n es fr to i j = 1 := (net_01 n es fr to i j).resolve_left z
          rw [z1]
          rcases net_supp z with ⟨v, hv, rfl, rfl, hf⟩ | ⟨v, hv, rfl, rfl⟩ | ⟨v, hv, rfl, rfl, ht⟩ | ⟨u, v, rfl, rfl, hE⟩
          · have : S (2 + 2 * v) = true := (SX v).2 (.inl hf)
            rw [this] at c; cases c.2
          · have hx := (SX v).1 c.1
            have hr : ¬ R v := fun g => by have := (SR v).2 g; rw [this] at c; cases c.2
            have hsv : s.testBit v = true := by
              cases hb : s.testBit v
              · exfalso
                apply hr
                rcases hx with hx | ⟨u, hu, he⟩
                · exact Rch.base hx hb
                · exact Rch.step hu he hb
              · rfl
            rw [if_pos (by omega), if_pos ⟨v, rfl, hsv⟩]
            exact Int.le_refl _
          · have := h v ((SR v).1 c.1)
            rw [this] at ht; cases ht
          · have : S (2 + 2 * v) = true := (SX v).2 (.inr ⟨u, (SR u).1 c.1, hE⟩)
            rw [this] at c; cases c.2
      · rw [if_neg c]; repeat' split
        all_goals omega
    refine Int.le_trans (isum_mono hterm) ?_
    by_cases hi : i + 1 < 2 + 2 * n
    · rw [isum_pick (g := fun _ => if ∃ v, i = 2 + 2 * v ∧ s.testBit v = true then (1 : Int) else 0) hi]
      exact Int.le_refl _
    · rw [isum_zero (fun j hj => if_neg (by omega))]
      split <;> omega
  unfold capS
  refine Int.le_trans (isum_mono fun i _ => key i) ?_
  rw [isum_pair, sz_isum hn hs]
  rw [if_neg (by rintro ⟨v, h, _⟩; omega), if_neg (by rintro ⟨v, h, _⟩; omega)]
  have : isum (fun v => (if ∃ u, 2 + 2 * v = 2 + 2 * u ∧ s.testBit u = true then (1:Int) else 0) + (if ∃ u, 3 + 2 * v = 2 + 2 * u ∧ s.testBit u = true then (1:Int) else 0)) n ≤ isum (fun v => bti (s.testBit v)) n := isum_mono fun v _ => by
    rw [if_neg (c := ∃ u, 3 + 2 * v = 2 + 2 * u ∧ s.testBit u = true) (by rintro ⟨u, h, _⟩; omega)]
    unfold bti
    by_cases c : s.testBit v = true
    · rw [if_pos ⟨v, rfl, c⟩, if_pos c]; omega
    · rw [if_neg (by rintro ⟨u, e, h⟩; exact c (by rw [show v = u by omega]; exact h)), if_neg c]; omega
  omega

theorem bars_of_cut {n : Nat} (hn : n ≤ 8) {es : List (Int × Int)} {fr to : Nat} (hfr : ∀ v, fr.testBit v = true → v < n) (hE : ∀ u v, Edge es u v → u < n ∧ v < n) {S : Nat → Bool} (h0 : S 0 = true) (h1 : S 1 = false) :
    ∃ s, s < 256 ∧ (∀ v, s.testBit v = true → v < n) ∧ Bars (Edge es) fr to s ∧ (sz s : Int) ≤ capS (2 + 2 * n) (net n es fr to) S := by
  classical
  -- charged
  let ch : Nat → Prop := fun v => v < n ∧ ((fr.testBit v = true ∧ S (2 + 2 * v) = false) ∨ (∃ u, u < n ∧ Edge es u v ∧ S (3 + 2 * u) = true ∧ S (2 + 2 * v) = false) ∨ (S (2 + 2 * v) = true ∧ S (3 + 2 * v) = false) ∨ (to.testBit v = true ∧ S (3 + 2 * v) = true))
  obtain ⟨s, hs, hbits⟩ := exists_set ch
  have hb : ∀ v, s.testBit v = true ↔ ch v := fun v => by
    by_cases hv : v < 8
    · exact hbits v hv
    · constructor
      · intro h; exact absurd (lt_of_testBit hs h) hv
      · intro h; exact absurd h.1 (by omega)
  have hsn : ∀ v, s.testBit v = true → v < n := fun v h => ((hb v).1 h).1
  refine ⟨s, hs, hsn, ?_, ?_⟩
  · -- out of each reached vertex lies in S
    have hr : ∀ v, Rch (Edge es) fr s v → v < n ∧ S (3 + 2 * v) = true := by
      intro v h
      induction h with
      | @base v hf hg =>
        have hv := hfr v hf
        refine ⟨hv, ?_⟩
        have hng : ¬ ch v := fun c => by rw [(hb v).2 c] at hg; cases hg
        cases a : S (3 + 2 * v)
        · exfalso
          apply hng
          refine ⟨hv, ?_⟩
          cases b : S (2 + 2 * v)
          · exact .inl ⟨hf, rfl⟩
          · exact .inr (.inr (.inl ⟨rfl, a⟩))
        · rfl
      | @step u v hu he hg ih =>
        have hv := (hE u v he).2
        refine ⟨hv, ?_⟩
        have hng : ¬ ch v := fun c => by rw [(hb v).2 c] at hg; cases hg
        cases a : S (3 + 2 * v)
        · exfalso
          apply hng
          refine ⟨hv, ?_⟩
          cases b : S (2 + 2 * v)
          · exact .inr (.inl ⟨u, (hE u v he).1, he, ih.2, rfl⟩)
          · exact .inr (.inr (.inl ⟨rfl, a⟩))
        · rfl
    intro v h
    obtain ⟨hv, hS⟩ := hr v h
    cases ht : to.testBit v
    · rfl
    · exfalso
      have := (hb v).2 ⟨hv, .inr (.inr (.inr ⟨ht, hS⟩))⟩
      rw [h.free] at this; cases this
  · rw [sz_isum hn hsn]
    have hnn : ∀ i j, 0 ≤ (if S i = true ∧ S j = false then net n es fr to i j else 0) := fun i j => by
      split
      · rcases net_01 n es fr to i j with h | h <;> omega
      · omega
    have e1 : capS (2 + 2 * n) (net n es fr to) S = isum (fun j => isum (fun i => if S i = true ∧ S j = false then net n es fr to i j else 0) (2 + 2 * n)) (2 + 2 * n) := isum_swap _ _ _
    rw [e1, isum_pair]
    have c0 : (0 : Int) ≤ isum (fun i => if S i = true ∧ S 0 = false then net n es fr to i 0 else 0) (2 + 2 * n) := isum_nonneg fun i _ => hnn i 0
    have c1 : isum (fun v => if S (3 + 2 * v) = true ∧ S 1 = false then net n es fr to (3 + 2 * v) 1 else 0) n ≤ isum (fun i => if S i = true ∧ S 1 = false then net n es fr to i 1 else 0) (2 + 2 * n) := by
      rw [isum_pair]
      have a := hnn 0 1
      have b := hnn 1 1
      have : isum (fun v => if S (3 + 2 * v) = true ∧ S 1 = false then net n es fr to (3 + 2 * v) 1 else 0) n ≤ isum (fun v => (if S (2 + 2 * v) = true ∧ S 1 = false then net n es fr to (2 + 2 * v) 1 else 0) + (if S (3 + 2 * v) = true ∧ S 1 = false then net n es fr to (3 + 2 * v) 1 else 0)) n := isum_mono fun v _ => by
        have := hnn (2 + 2 * v) 1
        omega
      omega
    have c2 : isum (fun v => bti (s.testBit v)) n ≤ isum (fun v => (isum (fun i => if S i = true ∧ S (2 + 2 * v) = false then net n es fr to i (2 + 2 * v) else 0) (2 + 2 * n) + isum (fun i => if S i = true ∧ S (3 + 2 * v) = false then net n es fr to i (3 + 2 * v) else 0) (2 + 2 * n)) + (if S (3 + 2 * v) = true ∧ S 1 = false then net n es fr to (3 + 2 * v) 1 else 0)) n := isum_mono fun v hv => by
      have n1 : 0 ≤ isum (fun i => if S i = true ∧ S (2 + 2 * v) = false then net n es fr to i (2 + 2 * v) else 0) (2 + 2 * n) := isum_nonneg fun i _ => hnn i _
      have n2 : 0 ≤ isum (fun i => if S i = true ∧ S (3 + 2 * v) = false then net n es fr to i (3 + 2 * v) else 0) (2 + 2 * n) := isum_nonneg fun i _ => hnn i _
      have n3 := hnn (3 + 2 * v) 1
      cases hc : s.testBit v
      · have e0 : bti false = 0 := rfl
        rw [e0]; omega
      · have e1 : bti true = 1 := rfl
        rw [e1]
        rcases ((hb v).1 hc).2 with ⟨hf, hS⟩ | ⟨u, hu, he, hS1, hS2⟩ | ⟨hS1, hS2⟩ | ⟨ht, hS⟩
        · have := isum_ge_one (f := fun i => if S i = true ∧ S (2 + 2 * v) = false then net n es fr to i (2 + 2 * v) else 0) (n := 2 + 2 * n) (k := 0) (fun i _ => hnn i _) (by omega)
          simp only [h0, hS, and_self, if_true] at this
          rw [net_keep n es fr to (by rintro ⟨u, w, h, _⟩; omega), netV_fst, if_pos hv, hf] at this
          simp only [bti, if_true] at this
          simp only [hS, and_true] at this n2 ⊢
          omega
        · have := isum_ge_one (f := fun i => if S i = true ∧ S (2 + 2 * v) = false then net n es fr to i (2 + 2 * v) else 0) (n := 2 + 2 * n) (k := 3 + 2 * u) (fun i _ => hnn i _) (by omega)
          have e : net n es fr to (3 + 2 * u) (2 + 2 * v) = 1 := by
            rcases net_edge n es fr to u v with ⟨h, _⟩ | ⟨_, h⟩
            · exact h
            · exact absurd he h
          simp only [hS1, hS2, and_self, if_true, e] at this
          simp only [hS2, and_true] at this n2 ⊢
          omega
        · have := isum_ge_one (f := fun i => if S i = true ∧ S (3 + 2 * v) = false then net n es fr to i (3 + 2 * v) else 0) (n := 2 + 2 * n) (k := 2 + 2 * v) (fun i _ => hnn i _) (by omega)
          simp only [hS1, hS2, and_self, if_true] at this
          rw [net_keep n es fr to (by rintro ⟨u, w, h, _⟩; omega), netV_mid, if_pos hv] at this
          simp only [hS2, and_true] at this n1 n3 ⊢
          omega
        · have e : (if S (3 + 2 * v) = true ∧ S 1 = false then net n es fr to (3 + 2 * v) 1 else 0) = 1 := by
            rw [if_pos ⟨hS, h1⟩, net_keep n es fr to (by rintro ⟨u, w, _, h⟩; omega), netV_last, if_pos hv, ht]; rfl
          omega
    rw [isum_add] at c2
    have : (0:Int) + 0 = 0 := rfl
    omega

/-- the fewest vertices that bar all ways are as many as the least that a set of places lets out -/
theorem minCut_bars {n : Nat} (hn : n ≤ 8) {es : List (Int × Int)} {fr to : Nat} (hfr : ∀ v, fr.testBit v = true → v < n) (hE : ∀ u v, Edge es u v → u < n ∧ v < n) {k : Int} (h : MinCut (2 + 2 * n) (net n es fr to) k)
    {b : Nat} (hb : ∀ v, b.testBit v = true → v < n) (hB : Bars (Edge es) fr to b) (hmin : ∀ s, s < 256 → (∀ v, s.testBit v = true → v < n) → Bars (Edge es) fr to s → sz b ≤ sz s) : k = sz b := by
  obtain ⟨⟨S, s0, s1, e⟩, l⟩ := h
  obtain ⟨T, t0, t1, le⟩ := cut_of_bars hn hb hB
  have a := l T t0 t1
  obtain ⟨s, hs, hsn, hB', le'⟩ := bars_of_cut (to := to) hn hfr hE s0 s1
  have := hmin s hs hsn hB'
  omega

end Go.Proofs.Ytffnpokceomncaa
