
/-
  Minors by ranks, plainly: the greatest independent sets of a rank function are a matroid of these ranks; deleting and contracting, in two steps or in one. No program in sight.
  Matroids from independent sets, plainly: a predicate that is hereditary and exchanges, and its greatest sets. No program in sight.
  Matroids from circuits, plainly: elimination makes independent sets exchange. No program in sight.
-/
import Derived.Test.YtmcffbmhkbijlaaPk28
import Derived.Test.YtmcffbmhkbijlaaPk22
import Derived.Test.YtmcffbmhkbijlaaPk27
import Derived.Test.YtmcffbmhkbijlaaPk10
namespace Go.Proofs.Ytmcffbmhkbijlaa
set_option linter.unusedVariables false

def basesM (n : Nat) (ρ : Nat → Nat) : List Nat := those n (ofRank n (fun s => (ρ s : Int)))
theorem mem_basesM {n : Nat} {ρ : Nat → Nat} {s : Nat} : s ∈ basesM n ρ ↔ s < bit n ∧ ρ s = sz s ∧ ρ s = ρ (bit n - 1) := by
  unfold basesM
  rw [mem_those]
  unfold ofRank
  rw [decide_eq_true_eq]
  constructor
  · rintro ⟨h1, h2, h3⟩
    have h2' : (ρ s : Int) = sz s := h2
    have h3' : (ρ s : Int) = ρ (bit n - 1) := h3
    exact ⟨h1, by omega, by omega⟩
  · rintro ⟨h1, h2, h3⟩
    exact ⟨h1, show (ρ s : Int) = sz s by omega, show (ρ s : Int) = ρ (bit n - 1) by omega⟩
namespace RkM
variable {n : Nat} {ρ : Nat → Nat}
theorem ext (h : RkM n ρ) : ∀ d I t, ρ t - ρ I = d → t < bit n → sub I t → ρ I = sz I → ∃ J, sub I J ∧ sub J t ∧ ρ J = sz J ∧ ρ J = ρ t := by
  intro d
  induction d with
  | zero =>
    intro I t hd ht hI hi
    have := h.mono ht hI
    exact ⟨I, fun _ h => h, hI, hi, by omega⟩
  | succ d ih =>
    intro I t hd ht hI hi
    have hIl := subM_lt hI ht
    have : ∃ i, t.testBit i = true ∧ ρ (I ||| bit i) ≠ ρ I := by
      apply Classical.byContradiction
      intro c
      have h1 := h.joins hIl ht (fun i hb => Classical.byContradiction fun e => c ⟨i, hb, e⟩)
      rw [or_sub hI] at h1
      omega
    obtain ⟨i, hit, hne⟩ := this
    have hin := bitM_in ht hit
    have hst := h.step I i hIl hin
    have hnb : I.testBit i = false := by
      cases c : I.testBit i
      · rfl
      · rw [orM_in c] at hne; exact absurd rfl hne
    have hs1 := sz_add (a := I) (i := i) (by have := h.n8; omega) hnb
    have hsub : sub (I ||| bit i) t := fun k hk => by
      rw [or_bit_testBit, Bool.or_eq_true, decide_eq_true_eq] at hk
      rcases hk with hk | rfl
      · exact hI k hk
      · exact hit
    obtain ⟨J, j1, j2, j3, j4⟩ := ih (I ||| bit i) t (by omega) ht hsub (by omega)
    exact ⟨J, fun k hk => j1 k (by rw [or_bit_testBit, hk]; rfl), j2, j3, j4⟩
theorem bases_ne (h : RkM n ρ) : basesM n ρ ≠ [] := by
  obtain ⟨J, _, j2, j3, j4⟩ := h.ext _ 0 (bit n - 1) rfl (all_lt n) (fun i hi => by rw [Nat.zero_testBit] at hi; cases hi) (by rw [h.zero, sz_zero])
  intro e
  have : J ∈ basesM n ρ := mem_basesM.2 ⟨subM_lt j2 (all_lt n), j3, j4⟩
  rw [e] at this; cases this
theorem bases_fam (h : RkM n ρ) : Fam8 (basesM n ρ) (ρ (bit n - 1)) where
  lt := fun b hb => by have := (mem_basesM.1 hb).1; have := bit_le n h.n8; omega
  eq := fun b hb => by have := mem_basesM.1 hb; omega
theorem bases_rk (h : RkM n ρ) {s : Nat} (hs : s < bit n) : rk (basesM n ρ) s = ρ s := by
  apply Nat.le_antisymm
  · obtain ⟨b, hb, e⟩ := rk_at h.bases_ne s
    obtain ⟨h1, h2, _⟩ := mem_basesM.1 hb
    rw [e, ← h.ind_sub h1 (sub_and_right s b) h2]
    exact h.mono hs (sub_and_left s b)
  · obtain ⟨I, _, i2, i3, i4⟩ := h.ext _ 0 s rfl hs (fun i hi => by rw [Nat.zero_testBit] at hi; cases hi) (by rw [h.zero, sz_zero])
    obtain ⟨J, j1, j2, j3, j4⟩ := h.ext _ I (bit n - 1) rfl (all_lt n) (fun i hi => by rw [testBit_all, decide_eq_true_eq]; exact bitM_in hs (i2 i hi)) i3
    have hJ : J ∈ basesM n ρ := mem_basesM.2 ⟨subM_lt j2 (all_lt n), j3, j4⟩
    have h1 := rk_ge s hJ
    have h2 : sz I ≤ sz (s &&& J) := sz_mono (fun i hi => by rw [Nat.testBit_and, i2 i hi, j1 i hi]; rfl)
    omega
theorem bases_exch (h : RkM n ρ) : Exch (basesM n ρ) := fun A hA C hC x hx hxC => by
  obtain ⟨a1, a2, a3⟩ := mem_basesM.1 hA
  obtain ⟨c1, c2, c3⟩ := mem_basesM.1 hC
  have hxn := bitM_in a1 hx
  have hn := h.n8
  have hA' : nand A (bit x) < bit n := nand_lt _ _ _ a1
  have hsz := sz_less (a := A) (i := x) (by omega) hx
  have hind := h.ind_sub a1 (dl_sub A x) a2
  have : ∃ y, C.testBit y = true ∧ ρ (nand A (bit x) ||| bit y) ≠ ρ (nand A (bit x)) := by
    apply Classical.byContradiction
    intro c
    have h1 := h.joins hA' c1 (fun i hb => Classical.byContradiction fun e => c ⟨i, hb, e⟩)
    have h2 := h.mono (orM_lt hA' c1) (sub_orM2 (nand A (bit x)) C)
    have hind' : ρ (nand A (bit x)) = sz (nand A (bit x)) := hind
    omega
  obtain ⟨y, hy, hne⟩ := this
  have hyn := bitM_in c1 hy
  have hyA' : (nand A (bit x)).testBit y = false := by
    cases c : (nand A (bit x)).testBit y
    · rfl
    · rw [orM_in c] at hne; exact absurd rfl hne
  have hyx : x ≠ y := by rintro rfl; rw [hy] at hxC; cases hxC
  have hyA : A.testBit y = false := by
    rw [nand_testBit, testBit_bit, decide_eq_false hyx] at hyA'
    simpa using hyA'
  refine ⟨y, hy, hyA, mem_basesM.2 ⟨orM_bit hA' hyn, ?_, ?_⟩⟩
  · have h1 := h.step _ y hA' hyn
    have h2 := sz_add (a := nand A (bit x)) (i := y) (by omega) hyA'
    have hind' : ρ (nand A (bit x)) = sz (nand A (bit x)) := hind
    omega
  · have h1 := h.step _ y hA' hyn
    have h2 := sz_add (a := nand A (bit x)) (i := y) (by omega) hyA'
    have hind' : ρ (nand A (bit x)) = sz (nand A (bit x)) := hind
    omega
theorem bases_mat (h : RkM n ρ) : MatL n (basesM n ρ) (ρ (bit n - 1)) where
  n8 := h.n8
  ne := h.bases_ne
  fam := h.bases_fam
  exch := h.bases_exch
  lt := fun b hb => (mem_basesM.1 hb).1
  rise := those_congr (fun s hs => bool_iff (by
    rw [memB_iff]
    unfold basesM
    rw [mem_those]
    exact ⟨fun h => ⟨hs, h⟩, fun h => h.2⟩))
end RkM

/-- ranks where some are gone, of these some contracted -/
def mnR (n gone c : Nat) (ρ : Nat → Nat) (t : Nat) : Nat := ρ (spTo gone t n ||| c) - ρ c
theorem sp_or (gone s t n : Nat) : spTo gone (s ||| t) n = spTo gone s n ||| spTo gone t n := by
  apply Nat.eq_of_testBit_eq
  intro j
  rw [Bool.eq_iff_iff, Nat.testBit_or, Bool.or_eq_true, spTo_testBit, spTo_testBit, spTo_testBit, Nat.testBit_or, Bool.or_eq_true]
  constructor
  · rintro ⟨h1, h2, h3 | h3⟩
    · exact .inl ⟨h1, h2, h3⟩
    · exact .inr ⟨h1, h2, h3⟩
  · rintro (⟨h1, h2, h3⟩ | ⟨h1, h2, h3⟩)
    · exact ⟨h1, h2, .inl h3⟩
    · exact ⟨h1, h2, .inr h3⟩
theorem sp_bit {gone n j : Nat} (hj : j < n) (hg : gone.testBit j = false) : spTo gone (bit (cnt gone j)) n = bit j := by
  apply Nat.eq_of_testBit_eq
  intro i
  rw [Bool.eq_iff_iff, spTo_testBit, testBit_bit, testBit_bit, decide_eq_true_eq, decide_eq_true_eq]
  constructor
  · rintro ⟨h1, h2, h3⟩; exact cnt_inj hg h2 h3
  · rintro rfl; exact ⟨hj, hg, rfl⟩
theorem sp_zero (gone n : Nat) : spTo gone 0 n = 0 := by
  apply Nat.eq_of_testBit_eq
  intro j
  rw [Bool.eq_iff_iff, spTo_testBit]
  simp
theorem sp_mono {gone s t n : Nat} (h : sub s t) : sub (spTo gone s n) (spTo gone t n) := fun j hj => by
  obtain ⟨h1, h2, h3⟩ := (spTo_testBit _ _ _ _).1 hj
  exact (spTo_testBit _ _ _ _).2 ⟨h1, h2, h _ h3⟩
theorem mnR_rk {n gone c : Nat} {ρ : Nat → Nat} (h : RkM n ρ) (hc : c < bit n) : RkM (cnt gone n) (mnR n gone c ρ) where
  n8 := by have := cnt_le gone n; have := h.n8; omega
  zero := by unfold mnR; rw [sp_zero, Nat.zero_or, Nat.sub_self]
  step := fun s i hs hi => by
    obtain ⟨j, hj, hg, e⟩ := cnt_onto hi
    subst e
    unfold mnR
    rw [sp_or, sp_bit hj hg, Nat.or_assoc, Nat.or_comm (bit j) c, ← Nat.or_assoc]
    have hl : spTo gone s n ||| c < bit n := orM_lt (spTo_lt gone s n) hc
    have h1 := h.step _ j hl hj
    have h2 := h.mono hl (sub_orM2 (spTo gone s n) c)
    omega
  clos := fun s u i hs hu hi hsu he => by
    obtain ⟨j, hj, hg, e⟩ := cnt_onto hi
    subst e
    unfold mnR at he ⊢
    rw [sp_or, sp_bit hj hg, Nat.or_assoc, Nat.or_comm (bit j) c, ← Nat.or_assoc] at he ⊢
    have hl1 : spTo gone s n ||| c < bit n := orM_lt (spTo_lt gone s n) hc
    have hl2 : spTo gone u n ||| c < bit n := orM_lt (spTo_lt gone u n) hc
    have k1 := h.mono hl1 (sub_orM2 (spTo gone s n) c)
    have k2 := h.mono (orM_bit hl1 hj) (sub_orM (spTo gone s n ||| c) (bit j))
    rw [h.clos _ (spTo gone u n ||| c) j hl1 hl2 hj (fun k hk => by
      rw [Nat.testBit_or, Bool.or_eq_true] at hk ⊢
      rcases hk with hk | hk
      · exact .inl (sp_mono hsu k hk)
      · exact .inr hk) (by omega)]
/-- two steps in one -/
theorem cnt_two {n d c : Nat} (hdc : ∀ j, c.testBit j = true → d.testBit j = false) : ∀ j, j ≤ n → cnt (prTo d c n) (cnt d j) = cnt (d ||| c) j := by
  intro j
  induction j with
  | zero => intro _; rfl
  | succ j ih =>
    intro hj
    have ih' := ih (by omega)
    cases hd : d.testBit j
    · rw [cnt_no hd]
      have hp : (prTo d c n).testBit (cnt d j) = c.testBit j := by
        rw [Bool.eq_iff_iff, prTo_testBit]
        constructor
        · rintro ⟨k, k1, k2, k3, k4⟩
          have := cnt_inj k2 hd k3
          subst this; exact k4
        · intro h; exact ⟨j, by omega, hd, rfl, h⟩
      cases hc : c.testBit j
      · rw [hc] at hp
        rw [cnt_no hp, cnt_no (show (d ||| c).testBit j = false by rw [Nat.testBit_or, hd, hc]; rfl), ih']
      · rw [hc] at hp
        rw [cnt_yes hp, cnt_yes (show (d ||| c).testBit j = true by rw [Nat.testBit_or, hd, hc]; rfl), ih']
    · rw [cnt_yes hd, cnt_yes (show (d ||| c).testBit j = true by rw [Nat.testBit_or, hd]; rfl), ih']
theorem pr_at {n d c j : Nat} (hj : j < n) (hd : d.testBit j = false) : (prTo d c n).testBit (cnt d j) = c.testBit j := by
  rw [Bool.eq_iff_iff, prTo_testBit]
  constructor
  · rintro ⟨k, k1, k2, k3, k4⟩
    have := cnt_inj k2 hd k3
    subst this; exact k4
  · intro h; exact ⟨j, hj, hd, rfl, h⟩
theorem sp_two {n d c t : Nat} (hdc : ∀ j, c.testBit j = true → d.testBit j = false) : spTo d (spTo (prTo d c n) t (cnt d n)) n = spTo (d ||| c) t n := by
  apply Nat.eq_of_testBit_eq
  intro j
  rw [Bool.eq_iff_iff, spTo_testBit, spTo_testBit, spTo_testBit, Nat.testBit_or, Bool.or_eq_false_iff]
  constructor
  · rintro ⟨h1, h2, h3, h4, h5⟩
    rw [pr_at h1 h2] at h4
    rw [cnt_two hdc j (by omega)] at h5
    exact ⟨h1, ⟨h2, h4⟩, h5⟩
  · rintro ⟨h1, ⟨h2, h4⟩, h5⟩
    refine ⟨h1, h2, cnt_lt h1 h2, by rw [pr_at h1 h2]; exact h4, ?_⟩
    rw [cnt_two hdc j (by omega)]; exact h5
/-- deleting by ranks -/
theorem del_bases {n d : Nat} {L : List Nat} : those (cnt d n) (ofRank (cnt d n) (delR n L d)) = basesM (cnt d n) (mnR n d 0 (rk L)) := by
  unfold basesM
  have : ∀ t, delR n L d t = ((mnR n d 0 (rk L) t : Nat) : Int) := fun t => by
    unfold delR mnR
    rw [Nat.or_zero, rk_zero, Nat.sub_zero]
  refine those_congr (fun s hs => ?_)
  unfold ofRank
  rw [this, this]
/-- contracting behind deleting -/
theorem con_bases {n d c : Nat} {L : List Nat} (hρ : RkM n (rk L)) (hc : c < bit n) (hdc : ∀ j, c.testBit j = true → d.testBit j = false) :
    those (cnt (prTo d c n) (cnt d n)) (ofRank (cnt (prTo d c n) (cnt d n)) (conR (cnt d n) (basesM (cnt d n) (mnR n d 0 (rk L))) (prTo d c n))) = basesM (cnt (d ||| c) n) (mnR n (d ||| c) c (rk L)) := by
  have hm := mnR_rk (gone := d) (c := 0) hρ (Nat.two_pow_pos n)
  have hpl := prTo_lt d c n
  have hsp : spTo d (prTo d c n) n = c := by
    rw [sp_pr hc]
    apply Nat.eq_of_testBit_eq
    intro j
    rw [nand_testBit]
    cases h : c.testBit j
    · rfl
    · rw [hdc j h]; rfl
  have key : ∀ t, conR (cnt d n) (basesM (cnt d n) (mnR n d 0 (rk L))) (prTo d c n) t = ((mnR n (d ||| c) c (rk L) t : Nat) : Int) := fun t => by
    unfold conR
    rw [hm.bases_rk (orM_lt (spTo_lt _ _ _) hpl), hm.bases_rk hpl]
    unfold mnR
    rw [sp_or, sp_two hdc, hsp, Nat.or_zero, Nat.or_zero, rk_zero, Nat.sub_zero, Nat.sub_zero]
    have := hρ.mono (orM_lt (spTo_lt (d ||| c) t n) hc) (sub_orM2 (spTo (d ||| c) t n) c)
    omega
  have hcn := cnt_two hdc n (Nat.le_refl _)
  generalize basesM (cnt d n) (mnR n d 0 (rk L)) = BB at key ⊢
  unfold basesM
  rw [hcn]
  refine those_congr (fun s hs => ?_)
  unfold ofRank
  rw [key, key]
end Go.Proofs.Ytmcffbmhkbijlaa

namespace Go.Proofs.Ytmcffbmhkbijlaa
set_option linter.unusedVariables false

/-- what an independence predicate must have -/
structure IndAx (n : Nat) (P : Nat → Bool) : Prop where
  n8 : n ≤ 8
  zero : P 0 = true
  down : ∀ s i, s < bit n → s.testBit i = true → P s = true → P (nand s (bit i)) = true
  up : ∀ s t, s < bit n → t < bit n → P s = true → P t = true → sz t = sz s + 1 → ∃ k, t.testBit k = true ∧ s.testBit k = false ∧ P (s ||| bit k) = true
/-- its greatest sets -/
def big (n : Nat) (P : Nat → Bool) : List Nat := biggest (those n P)
def bigR (n : Nat) (P : Nat → Bool) : Nat := mostTo (those n P) (those n P).length
theorem big_those (n : Nat) (P : Nat → Bool) : big n P = those n (fun s => P s && decide (sz s = bigR n P)) := by
  unfold big bigR
  rw [biggest_eq]
  unfold those
  rw [List.filter_filter]
  refine List.filter_congr (fun s hs => ?_)
  rw [Bool.eq_iff_iff]
  simp only [Bool.and_eq_true, beq_iff_eq, decide_eq_true_eq]
  exact ⟨fun ⟨a, b⟩ => ⟨b, a⟩, fun ⟨a, b⟩ => ⟨b, a⟩⟩
theorem mem_big {n : Nat} {P : Nat → Bool} {s : Nat} : s ∈ big n P ↔ s < bit n ∧ P s = true ∧ sz s = bigR n P := by
  rw [big_those, mem_those, Bool.and_eq_true, decide_eq_true_eq]
theorem bigR_ge {n : Nat} {P : Nat → Bool} {s : Nat} (hs : s < bit n) (hP : P s = true) : sz s ≤ bigR n P := by
  have hm : s ∈ those n P := mem_those.2 ⟨hs, hP⟩
  obtain ⟨k, hk, e⟩ := List.getElem_of_mem hm
  have := mostTo_ge (those n P) hk
  rw [List.getD_eq_getElem?_getD, List.getElem?_eq_getElem hk, Option.getD_some, e] at this
  exact this
theorem mostTo_at (l : List Nat) : ∀ k, k ≤ l.length → mostTo l k = 0 ∨ ∃ i, i < k ∧ mostTo l k = sz (l.getD i 0) := by
  intro k
  induction k with
  | zero => exact fun _ => .inl rfl
  | succ k ih =>
    intro hk
    show max _ _ = 0 ∨ ∃ i, i < k + 1 ∧ max (mostTo l k) (sz (l.getD k 0)) = sz (l.getD i 0)
    by_cases h : mostTo l k ≤ sz (l.getD k 0)
    · exact .inr ⟨k, by omega, by omega⟩
    · rcases ih (by omega) with h1 | ⟨i, hi, h1⟩
      · omega
      · exact .inr ⟨i, by omega, by omega⟩
theorem bigR_at {n : Nat} {P : Nat → Bool} (h : P 0 = true) : ∃ s, s < bit n ∧ P s = true ∧ sz s = bigR n P := by
  rcases mostTo_at (those n P) _ (Nat.le_refl _) with h1 | ⟨i, hi, h1⟩
  · exact ⟨0, bitM_pos n, h, by unfold bigR; rw [h1, sz_zero]⟩
  · have hm : (those n P).getD i 0 ∈ those n P := by simp [hi]
    obtain ⟨h2, h3⟩ := mem_those.1 hm
    exact ⟨_, h2, h3, h1.symm⟩
theorem big_congr {n : Nat} {P Q : Nat → Bool} (h : ∀ s, s < bit n → P s = Q s) : big n P = big n Q := by unfold big; rw [those_congr h]
theorem nand_lt_bit {n s : Nat} (t : Nat) (h : s < bit n) : nand s t < bit n := subM_lt (fun i hi => by rw [nand_testBit] at hi; simp at hi; exact hi.1) h
namespace IndAx
variable {n : Nat} {P : Nat → Bool}
theorem congr (h : IndAx n P) {Q : Nat → Bool} (e : ∀ s, s < bit n → P s = Q s) : IndAx n Q where
  n8 := h.n8
  zero := by rw [← e 0 (bitM_pos n)]; exact h.zero
  down := fun s i hs hi hQ => by rw [← e _ (nand_lt_bit _ hs)]; exact h.down s i hs hi (by rw [e s hs]; exact hQ)
  up := fun s t hs ht h1 h2 hz => by
    obtain ⟨k, k1, k2, k3⟩ := h.up s t hs ht (by rw [e s hs]; exact h1) (by rw [e t ht]; exact h2) hz
    exact ⟨k, k1, k2, by rw [← e _ (orM_bit hs (bitM_in ht k1))]; exact k3⟩
theorem below (h : IndAx n P) : ∀ d a s, s < bit n → sub a s → sz s = sz a + d → P s = true → P a = true := by
  intro d
  induction d with
  | zero =>
    intro a s hs ha hz hP
    have h8 := bit_le n h.n8
    have : a = s := eq_of_sub_sz (by have := subM_lt ha hs; omega) (by omega) ha (by omega)
    rw [this]; exact hP
  | succ d ih =>
    intro a s hs ha hz hP
    have hne : ¬ sub s a := fun c => by
      have := sz_mono c
      omega
    obtain ⟨k, k1, k2⟩ := exists_diff hne
    have hk : k < 8 := by have := bitM_in hs k1; have := h.n8; omega
    have h3 := sz_less hk k1
    refine ih a (nand s (bit k)) (nand_lt_bit _ hs) (fun i hi => ?_) (by omega) (h.down s k hs k1 hP)
    rw [nand_testBit_bit, ha i hi]
    have : k ≠ i := fun e => by subst e; rw [hi] at k2; cases k2
    simp [this]
theorem sub_of (h : IndAx n P) {a s : Nat} (hs : s < bit n) (ha : sub a s) (hP : P s = true) : P a = true := h.below (sz s - sz a) a s hs ha (by have := sz_mono ha; omega) hP
/-- a part of a size of one's own choice -/
theorem part {s : Nat} {n : Nat} (hn : n ≤ 8) (hs : s < bit n) : ∀ d k, sz s = k + d → ∃ t, sub t s ∧ sz t = k := by
  intro d
  induction d generalizing s with
  | zero => exact fun k hk => ⟨s, sub_refl s, by omega⟩
  | succ d ih =>
    intro k hk
    have hne : ¬ sub s 0 := fun c => by have := sz_mono c; rw [sz_zero] at this; omega
    obtain ⟨i, k1, _⟩ := exists_diff hne
    have h3 := sz_less (show i < 8 by have := bitM_in hs k1; omega) k1
    obtain ⟨t, ht, hz⟩ := ih (s := nand s (bit i)) (nand_lt_bit _ hs) k (by omega)
    exact ⟨t, sub_trans ht (fun j hj => by rw [nand_testBit] at hj; simp at hj; exact hj.1), hz⟩
theorem grow (h : IndAx n P) {s t : Nat} (hs : s < bit n) (ht : t < bit n) (h1 : P s = true) (h2 : P t = true) (hz : sz s < sz t) : ∃ k, t.testBit k = true ∧ s.testBit k = false ∧ P (s ||| bit k) = true := by
  obtain ⟨t', hsub, hz'⟩ := part h.n8 ht (sz t - (sz s + 1)) (sz s + 1) (by omega)
  obtain ⟨k, k1, k2, k3⟩ := h.up s t' hs (subM_lt hsub ht) h1 (h.sub_of ht hsub h2) (by omega)
  exact ⟨k, hsub k k1, k2, k3⟩
/-- each lies in a greatest one -/
theorem into (h : IndAx n P) : ∀ d s, s < bit n → P s = true → sz s + d = bigR n P → ∃ b, b ∈ big n P ∧ sub s b := by
  intro d
  induction d with
  | zero => exact fun s hs hP hz => ⟨s, mem_big.2 ⟨hs, hP, by omega⟩, sub_refl s⟩
  | succ d ih =>
    intro s hs hP hz
    obtain ⟨t, ht, h2, h3⟩ := bigR_at (n := n) h.zero
    obtain ⟨k, k1, k2, k3⟩ := h.grow hs ht hP h2 (by omega)
    have hk := bitM_in ht k1
    obtain ⟨b, hb, hsb⟩ := ih (s ||| bit k) (orM_bit hs hk) k3 (by rw [sz_add (by have := h.n8; omega) k2]; omega)
    exact ⟨b, hb, sub_trans (sub_orM s _) hsb⟩
theorem ind_iff (h : IndAx n P) {s : Nat} (hs : s < bit n) : Ind (big n P) s ↔ P s = true := by
  constructor
  · rintro ⟨b, hb, hsb⟩
    obtain ⟨h1, h2, _⟩ := mem_big.1 hb
    exact h.sub_of h1 hsb h2
  · intro hP
    have := bigR_ge hs hP
    obtain ⟨b, hb, hsb⟩ := h.into (bigR n P - sz s) s hs hP (by omega)
    exact ⟨b, hb, hsb⟩
theorem mat (h : IndAx n P) : MatL n (big n P) (bigR n P) where
  n8 := h.n8
  ne := fun e => by
    obtain ⟨t, ht, h2, h3⟩ := bigR_at (n := n) h.zero
    have : t ∈ big n P := mem_big.2 ⟨ht, h2, h3⟩
    rw [e] at this; cases this
  fam := ⟨fun b hb => by have := (mem_big.1 hb).1; have := bit_le n h.n8; omega, fun b hb => (mem_big.1 hb).2.2⟩
  exch := fun A hA B hB x hx hxB => by
    obtain ⟨a1, a2, a3⟩ := mem_big.1 hA
    obtain ⟨b1, b2, b3⟩ := mem_big.1 hB
    have hxn := bitM_in a1 hx
    have h3 := sz_less (show x < 8 by have := h.n8; omega) hx
    obtain ⟨k, k1, k2, k3⟩ := h.grow (nand_lt_bit (bit x) a1) b1 (h.down A x a1 hx a2) b2 (by omega)
    have hkx : x ≠ k := fun e => by subst e; rw [hxB] at k1; cases k1
    rw [nand_testBit_bit] at k2
    have hAk : A.testBit k = false := by simpa [hkx] using k2
    refine ⟨k, k1, hAk, mem_big.2 ⟨orM_bit (nand_lt_bit _ a1) (bitM_in b1 k1), k3, ?_⟩⟩
    rw [sz_add (by have := bitM_in b1 k1; have := h.n8; omega) (by rw [nand_testBit_bit]; simp [hAk])]
    omega
  lt := fun b hb => (mem_big.1 hb).1
  rise := by
    have e : big n P = those n (fun s => P s && decide (sz s = bigR n P)) := big_those n P
    conv => lhs; rw [e]
    exact those_congr (fun s hs => by
      rw [Bool.eq_iff_iff, memB_iff, mem_big, Bool.and_eq_true, decide_eq_true_eq]
      exact ⟨fun ⟨x, y⟩ => ⟨hs, x, y⟩, fun ⟨_, x, y⟩ => ⟨x, y⟩⟩)
theorem indP (h : IndAx n P) {s : Nat} (hs : s < bit n) : indP (big n P) s = P s := by
  have hM := h.mat
  rw [Bool.eq_iff_iff, ← h.ind_iff hs]
  unfold Go.Proofs.Ytmcffbmhkbijlaa.indP
  rw [decide_eq_true_eq]
  constructor
  · intro e
    obtain ⟨b, hb, e2⟩ := rk_at hM.ne s
    refine ⟨b, hb, ?_⟩
    have h8 := bit_le n h.n8
    have : s &&& b = s := eq_of_sub_sz (by have := and_lt_bit b hs; omega) (by omega) (sub_and_left s b) (by omega)
    intro i hi
    rw [← this, Nat.testBit_and] at hi
    simp at hi; exact hi.2
  · exact fun hI => rk_self hI
end IndAx
/-- independent sets of a matroid -/
theorem MatL.indAx {n r : Nat} {L : List Nat} (h : MatL n L r) : IndAx n (indP L) where
  n8 := h.n8
  zero := by unfold indP; rw [rk_zero, sz_zero]; rfl
  down := fun s i hs hi hP => by
    have hI : Ind L s := (freeB_iff).1 (by
      have := ind_same h.n8 h.ne (L := L)
      have h1 : s ∈ those n (indP L) := mem_those.2 ⟨hs, hP⟩
      rw [this] at h1
      exact (mem_those.1 h1).2)
    obtain ⟨b, hb, hsb⟩ := hI
    unfold indP
    rw [decide_eq_true_eq]
    exact rk_self ⟨b, hb, sub_trans (fun j hj => by rw [nand_testBit] at hj; simp at hj; exact hj.1) hsb⟩
  up := fun s t hs ht h1 h2 hz => by
    have hI : ∀ x, x < bit n → indP L x = true → Ind L x := fun x hx hP => (freeB_iff).1 (by
      have := ind_same h.n8 h.ne (L := L)
      have h1 : x ∈ those n (indP L) := mem_those.2 ⟨hx, hP⟩
      rw [this] at h1
      exact (mem_those.1 h1).2)
    obtain ⟨b1, hb1, hs1⟩ := hI s hs h1
    obtain ⟨b2, hb2, hs2⟩ := hI t ht h2
    obtain ⟨y, hy, y1, y2, y3⟩ := augment h.fam h.exch (show sz s < sz t by omega) _ b1 b2 hb1 hb2 hs1 hs2 rfl
    exact ⟨y, y1, y2, by unfold indP; rw [decide_eq_true_eq]; exact rk_self y3⟩
end Go.Proofs.Ytmcffbmhkbijlaa

namespace Go.Proofs.Ytmcffbmhkbijlaa
set_option linter.unusedVariables false

/-- none of a family lies in a set -/
def PC (l : List Nat) (s : Nat) : Bool := l.all (fun c => !decide (c ||| s = s))
theorem or_eq_sub {c s : Nat} : c ||| s = s ↔ sub c s := by
  constructor
  · intro h i hi
    rw [← h, Nat.testBit_or, hi]; rfl
  · exact or_sub
theorem PC_iff {l : List Nat} {s : Nat} : PC l s = true ↔ ∀ c, c ∈ l → ¬ sub c s := by
  unfold PC
  rw [List.all_eq_true]
  constructor
  · intro h c hc hs
    have := h c hc
    rw [decide_eq_true (or_eq_sub.2 hs)] at this
    cases this
  · intro h c hc
    rw [decide_eq_false (fun e => h c hc (or_eq_sub.1 e))]; rfl
theorem PC_not {l : List Nat} {s : Nat} (h : ¬ PC l s = true) : ∃ c, c ∈ l ∧ sub c s := by
  apply Classical.byContradiction
  intro hc
  exact h (PC_iff.2 (fun c h1 h2 => hc ⟨c, h1, h2⟩))
/-- what a family of circuits must have -/
structure CAx (n : Nat) (l : List Nat) : Prop where
  nz : ∀ c, c ∈ l → c ≠ 0
  anti : ∀ a, a ∈ l → ∀ b, b ∈ l → a ≠ b → ¬ sub a b
  elim : ∀ a, a ∈ l → ∀ b, b ∈ l → a ≠ b → ∀ k, k < n → (a &&& b).testBit k = true → ∃ x, x ∈ l ∧ sub x (nand (a ||| b) (bit k))
theorem CAx.ind {n : Nat} {l : List Nat} (hn : n ≤ 8) (hlt : ∀ c, c ∈ l → c < bit n) (h : CAx n l) : IndAx n (PC l) where
  n8 := hn
  zero := PC_iff.2 (fun c hc hs => h.nz c hc (Nat.eq_of_testBit_eq (fun i => by
    cases e : c.testBit i
    · simp
    · have := hs i e; simp at this)))
  down := fun s i hs hi hP => PC_iff.2 (fun c hc hsub => PC_iff.1 hP c hc (sub_trans hsub (nand_bit_sub s i)))
  up := fun s t hs ht h1 h2 hz => by
    apply Classical.byContradiction
    intro hno
    have hdep : ∀ k, t.testBit k = true → s.testBit k = false → ¬ PC l (s ||| bit k) = true := fun k k1 k2 k3 => hno ⟨k, k1, k2, k3⟩
    have key : ∀ d I, sub I (s ||| t) → PC l I = true → sz s < sz I → sz (nand s I) = d → False := by
      intro d
      induction d using Nat.strongRecOn with
      | ind d ih =>
      intro I hI hP hlt2 hd
      have hIn : I < bit n := subM_lt hI (orM_lt hs ht)
      have hIs : ¬ sub I s := fun c => by have := sz_mono c; omega
      by_cases hsI : sub s I
      · obtain ⟨k, k1, k2⟩ := exists_diff hIs
        have kt : t.testBit k = true := by
          have := hI k k1
          rw [Nat.testBit_or, k2] at this
          simpa using this
        refine hdep k kt k2 (PC_iff.2 (fun c hc hsub => PC_iff.1 hP c hc (sub_trans hsub (fun i hi => ?_))))
        rw [or_bit_testBit] at hi
        cases e : s.testBit i
        · rw [e] at hi
          have : k = i := by simpa using hi
          rw [← this]; exact k1
        · exact hsI i e
      obtain ⟨e, e1, e2⟩ := exists_diff hsI
      have he := bitM_in hs e1
      -- each exchange is dependent
      have hT : ∀ f, I.testBit f = true → s.testBit f = false → ∃ c, c ∈ l ∧ sub c (I ||| bit e) ∧ c.testBit f = false ∧ c.testBit e = true := by
        intro f f1 f2
        have hfe : f ≠ e := fun c => by subst c; rw [f1] at e2; cases e2
        have hf8 : f < 8 := by have := bitM_in hIn f1; omega
        have hzT : sz (nand (I ||| bit e) (bit f)) = sz I := by
          have h3 := sz_less hf8 (show (I ||| bit e).testBit f = true by rw [or_bit_testBit, f1]; rfl)
          have h4 := sz_add (show e < 8 by omega) e2
          omega
        have hTs : sub (nand (I ||| bit e) (bit f)) (s ||| t) := fun i hi => by
          rw [nand_testBit_bit, or_bit_testBit] at hi
          simp only [Bool.and_eq_true, Bool.or_eq_true, decide_eq_true_eq] at hi
          rcases hi.1 with h5 | h5
          · exact hI i h5
          · rw [Nat.testBit_or, ← h5, e1]; rfl
        have hdT : sz (nand s (nand (I ||| bit e) (bit f))) < d := by
          have e3 : nand s (nand (I ||| bit e) (bit f)) = nand (nand s I) (bit e) := Nat.eq_of_testBit_eq (fun i => by
            simp only [nand_testBit, or_bit_testBit, testBit_bit]
            by_cases c1 : e = i
            · subst c1
              rw [e1, e2]
              have : ¬ f = e := hfe
              simp [this]
            · by_cases c2 : f = i
              · subst c2
                rw [f2]; simp
              · simp [c1, c2])
          rw [e3]
          have := sz_less (show e < 8 by omega) (show (nand s I).testBit e = true by rw [nand_testBit, e1, e2]; rfl)
          omega
        have hnP : ¬ PC l (nand (I ||| bit e) (bit f)) = true := fun hP2 => ih _ hdT _ hTs hP2 (by omega) rfl
        obtain ⟨c, hc, hcs⟩ := PC_not hnP
        refine ⟨c, hc, sub_trans hcs (nand_bit_sub _ _), ?_, ?_⟩
        · cases c3 : c.testBit f
          · rfl
          · have := hcs f c3; rw [nand_bit_bit] at this; cases this
        · cases c3 : c.testBit e
          · exfalso
            refine PC_iff.1 hP c hc (fun i hi => ?_)
            have := hcs i hi
            rw [nand_testBit_bit, or_bit_testBit] at this
            simp only [Bool.and_eq_true, Bool.or_eq_true, decide_eq_true_eq] at this
            rcases this.1 with h5 | h5
            · exact h5
            · rw [← h5, c3] at hi; cases hi
          · rfl
      obtain ⟨g, g1, g2⟩ := exists_diff hIs
      obtain ⟨cg, m1, s1, z1, w1⟩ := hT g g1 g2
      have : ∃ h', cg.testBit h' = true ∧ I.testBit h' = true ∧ s.testBit h' = false := by
        apply Classical.byContradiction
        intro hc
        refine PC_iff.1 h1 cg m1 (fun i hi => ?_)
        cases c3 : s.testBit i
        · exfalso
          have := s1 i hi
          rw [or_bit_testBit] at this
          simp only [Bool.or_eq_true, decide_eq_true_eq] at this
          rcases this with h5 | h5
          · exact hc ⟨i, hi, h5, c3⟩
          · rw [← h5, e1] at c3; cases c3
        · rfl
      obtain ⟨h', b1, b2, b3⟩ := this
      obtain ⟨ch, m2, s2, z2, w2⟩ := hT h' b2 b3
      have hne : cg ≠ ch := fun e4 => by rw [e4, z2] at b1; cases b1
      obtain ⟨x, hx, hxs⟩ := h.elim cg m1 ch m2 hne e he (by rw [Nat.testBit_and, w1, w2]; rfl)
      refine PC_iff.1 hP x hx (fun i hi => ?_)
      have h5 := hxs i hi
      rw [nand_testBit_bit, Nat.testBit_or] at h5
      simp only [Bool.and_eq_true, Bool.or_eq_true, Bool.not_eq_true', decide_eq_false_iff_not] at h5
      have h6 : (I ||| bit e).testBit i = true := h5.1.elim (s1 i) (s2 i)
      rw [or_bit_testBit] at h6
      simp only [Bool.or_eq_true, decide_eq_true_eq] at h6
      rcases h6 with h6 | h6
      · exact h6
      · exact absurd h6 h5.2
    exact key _ t (sub_orM2 s t) h2 (by omega) rfl

theorem MatL.rkM {n r : Nat} {L : List Nat} (h : MatL n L r) : RkM n (rk L) := rkM_of_sub h.n8 h.ne (sub_of_exch h.n8 h.ne h.fam h.exch)
theorem nat8 {n s : Nat} (hn : n ≤ 8) (h : s < bit n) : s < 256 := by have := bit_le n hn; omega
/-- circuits of a matroid -/
theorem MatL.cax {n r : Nat} {L l : List Nat} (h : MatL n L r) (hl : ∀ s, s ∈ l ↔ s < bit n ∧ Circ L s) : CAx n l where
  nz := fun c hc e => by
    subst e
    have := ((hl 0).1 hc).2.1
    exact this ((ind_rk h.ne (by decide)).2 (by rw [rk_zero, sz_zero]))
  anti := fun a ha b hb hne hab => by
    obtain ⟨a1, a2⟩ := (hl a).1 ha
    obtain ⟨b1, b2⟩ := (hl b).1 hb
    exact a2.1 (b2.2 a (nat8 h.n8 a1) hab hne)
  elim := fun a ha b hb hne k hk hkk => by
    obtain ⟨a1, a2⟩ := (hl a).1 ha
    obtain ⟨b1, b2⟩ := (hl b).1 hb
    have hR := h.rkM
    rw [Nat.testBit_and] at hkk
    simp only [Bool.and_eq_true] at hkk
    have hab : ¬ sub a b := fun c => a2.1 (b2.2 a (nat8 h.n8 a1) c hne)
    have hS := orM_lt a1 b1
    have hS8 := nat8 h.n8 hS
    by_cases hI : Ind L (nand (a ||| b) (bit k))
    · exfalso
      have hk8 : k < 8 := by have := h.n8; omega
      -- the closure of a circuit less one element holds the element
      have clo : ∀ c f, c < bit n → Circ L c → c.testBit f = true → sub c (a ||| b) → rk L (nand (a ||| b) (bit f) ||| bit f) = rk L (nand (a ||| b) (bit f)) := fun c f hc hC hf hsub => by
        have hfn := bitM_in hc hf
        obtain ⟨r1, r2⟩ := (circ_rk h.ne (nat8 h.n8 hc)).1 hC
        have r3 := r2 f (by have := h.n8; omega) hf
        have r4 := sz_less (show f < 8 by have := h.n8; omega) hf
        refine hR.clos (nand c (bit f)) _ f (nand_lt_bit _ hc) (nand_lt_bit _ hS) hfn (fun i hi => ?_) ?_
        · rw [nand_testBit_bit] at hi ⊢
          simp only [Bool.and_eq_true] at hi ⊢
          exact ⟨hsub i hi.1, hi.2⟩
        · rw [nand_or_bit hf]; omega
      have c1 := clo a k a1 a2 hkk.1 (sub_orM a b)
      have kS : (a ||| b).testBit k = true := by rw [Nat.testBit_or, hkk.1]; rfl
      rw [nand_or_bit kS] at c1
      have c2 := rk_self hI
      have c3 := sz_less hk8 kS
      obtain ⟨f, f1, f2⟩ := exists_diff hab
      have fS : (a ||| b).testBit f = true := by rw [Nat.testBit_or, f1]; rfl
      have c4 := clo a f a1 a2 f1 (sub_orM a b)
      rw [nand_or_bit fS] at c4
      have hf8 : f < 8 := by have := bitM_in a1 f1; have := h.n8; omega
      have c5 := sz_less hf8 fS
      have hI2 : Ind L (nand (a ||| b) (bit f)) := (ind_rk h.ne (nat8 h.n8 (nand_lt_bit _ hS))).2 (by omega)
      exact b2.1 (hI2.down (fun i hi => by
        rw [nand_testBit_bit, Nat.testBit_or, hi]
        have : f ≠ i := fun e => by subst e; rw [hi] at f2; cases f2
        simp [this]))
    · obtain ⟨c, c1, c2, c3⟩ := dep_circ _ _ (nat8 h.n8 (nand_lt_bit (bit k) hS)) rfl hI
      exact ⟨c, (hl c).2 ⟨subM_lt c2 (nand_lt_bit _ hS), c3⟩, c2⟩
/-- THE LAW OF CIRCUITS -/
theorem circ_law {n : Nat} {l : List Nat} (hn : n ≤ 8) (hl : l = those n (memB l)) : CAx n l ↔ (∃ r, MatL n (big n (PC l)) r) ∧ those n (circP (big n (PC l))) = l := by
  have hlt : ∀ c, c ∈ l → c < bit n := fun c hc => by rw [hl] at hc; exact (mem_those.1 hc).1
  constructor
  · intro h
    have hX := h.ind hn hlt
    have hM := hX.mat
    refine ⟨⟨_, hM⟩, ?_⟩
    conv => rhs; rw [hl]
    refine those_mem_eq (fun s hs => ?_)
    have h1 : circP (big n (PC l)) s = true ↔ s ∈ those n (circP (big n (PC l))) := by rw [mem_those]; exact ⟨fun x => ⟨hs, x⟩, fun x => x.2⟩
    rw [h1, circ_same hn hM.ne, mem_circ2 hn, memB_iff]
    constructor
    · rintro ⟨_, c1, c2⟩
      have h2 : ¬ PC l s = true := fun hP => c1 ((hX.ind_iff hs).2 hP)
      obtain ⟨c, hc, hcs⟩ := PC_not h2
      by_cases e : c = s
      · rw [← e]; exact hc
      · have := c2 c (nat8 hn (hlt c hc)) hcs e
        rw [hX.ind_iff (hlt c hc)] at this
        exact absurd (sub_refl c) (PC_iff.1 this c hc)
    · intro hm
      refine ⟨hs, fun hI => ?_, fun t ht hts hne => ?_⟩
      · rw [hX.ind_iff hs] at hI
        exact PC_iff.1 hI s hm (sub_refl s)
      · rw [hX.ind_iff (subM_lt hts hs)]
        refine PC_iff.2 (fun c hc hct => ?_)
        by_cases e : c = s
        · subst e
          exact hne (sub_antisymm hts hct)
        · exact h.anti c hc s hm e (sub_trans hct hts)
  · rintro ⟨⟨r, hM⟩, he⟩
    refine hM.cax (fun s => ?_)
    rw [← mem_circ2 hn, ← circ_same hn hM.ne, he]
/-- THE LAW OF INDEPENDENT SETS -/
theorem free_law {n : Nat} {l : List Nat} (hn : n ≤ 8) (hl : l = those n (memB l)) : IndAx n (memB l) ↔ (∃ r, MatL n (big n (memB l)) r) ∧ those n (indP (big n (memB l))) = l := by
  constructor
  · intro h
    refine ⟨⟨_, h.mat⟩, ?_⟩
    conv => rhs; rw [hl]
    exact those_congr (fun s hs => h.indP hs)
  · rintro ⟨⟨r, hM⟩, he⟩
    refine hM.indAx.congr (fun s hs => ?_)
    rw [Bool.eq_iff_iff, memB_iff]
    have : indP (big n (memB l)) s = true ↔ s ∈ those n (indP (big n (memB l))) := by rw [mem_those]; exact ⟨fun x => ⟨hs, x⟩, fun x => x.2⟩
    rw [this, he]
end Go.Proofs.Ytmcffbmhkbijlaa
