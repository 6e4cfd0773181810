
/-
  Minors by ranks, plainly: the greatest independent sets of a rank function are a matroid of these ranks; deleting and contracting, in two steps or in one. No program in sight.
  Minors that are another matroid, plainly. No program in sight.
  The search for a minor in plain words: what rotaref.Minor tests.
-/
import Derived.Test.YtdcdhdlklppalaaPk37
import Derived.Test.YtdcdhdlklppalaaPk13
import Derived.Test.YtdcdhdlklppalaaPk30
import Derived.Test.YtdcdhdlklppalaaPk26
import Derived.Test.YtdcdhdlklppalaaPk43
namespace Go.Proofs.Ytdcdhdlklppalaa
set_option linter.unusedVariables false

def basesM (n : Nat) (ρ : Nat → Nat) : List Nat := those n (ofRank n (fun s => (ρ s : Int)))
theorem mem_basesM {n : Nat} {ρ : Nat → Nat} {s : Nat} : s ∈ basesM n ρ ↔ s < bit n ∧ ρ s = sz s ∧ ρ s = ρ (bit n - 1) := by
  unfold basesM
  rw [mem_those]
  unfold ofRank
  rw [decide_eq_true_eq]
  constructor
  · rintro ⟨h1, h2, h3⟩
    have h2' : (ρ s : Int) = sz s := h2
    have h3' : (ρ s : Int) = ρ (bit n - 1) := h3
    exact ⟨h1, by omega, by omega⟩
  · rintro ⟨h1, h2, h3⟩
    exact ⟨h1, show (ρ s : Int) = sz s by omega, show (ρ s : Int) = ρ (bit n - 1) by omega⟩
namespace RkM
variable {n : Nat} {ρ : Nat → Nat}
theorem ext (h : RkM n ρ) : ∀ d I t, ρ t - ρ I = d → t < bit n → sub I t → ρ I = sz I → ∃ J, sub I J ∧ sub J t ∧ ρ J = sz J ∧ ρ J = ρ t := by
  intro d
  induction d with
  | zero =>
    intro I t hd ht hI hi
    have := h.mono ht hI
    exact ⟨I, fun _ h => h, hI, hi, by omega⟩
  | succ d ih =>
    intro I t hd ht hI hi
    have hIl := subM_lt hI ht
    have : ∃ i, t.testBit i = true ∧ ρ (I ||| bit i) ≠ ρ I := by
      apply Classical.byContradiction
      intro c
      have h1 := h.joins hIl ht (fun i hb => Classical.byContradiction fun e => c ⟨i, hb, e⟩)
      rw [or_sub hI] at h1
      omega
    obtain ⟨i, hit, hne⟩ := this
    have hin := bitM_in ht hit
    have hst := h.step I i hIl hin
    have hnb : I.testBit i = false := by
      cases c : I.testBit i
      · rfl
      · rw [orM_in c] at hne; exact absurd rfl hne
    have hs1 := sz_add (a := I) (i := i) (by have := h.n8; omega) hnb
    have hsub : sub (I ||| bit i) t := fun k hk => by
      rw [or_bit_testBit, Bool.or_eq_true, decide_eq_true_eq] at hk
      rcases hk with hk | rfl
      · exact hI k hk
      · exact hit
    obtain ⟨J, j1, j2, j3, j4⟩ := ih (I ||| bit i) t (by omega) ht hsub (by omega)
    exact ⟨J, fun k hk => j1 k (by rw [or_bit_testBit, hk]; rfl), j2, j3, j4⟩
theorem bases_ne (h : RkM n ρ) : basesM n ρ ≠ [] := by
  obtain ⟨J, _, j2, j3, j4⟩ := h.ext _ 0 (bit n - 1) rfl (all_lt n) (fun i hi => by rw [Nat.zero_testBit] at hi; cases hi) (by rw [h.zero, sz_zero])
  intro e
  have : J ∈ basesM n ρ := mem_basesM.2 ⟨subM_lt j2 (all_lt n), j3, j4⟩
  rw [e] at this; cases this
theorem bases_fam (h : RkM n ρ) : Fam8 (basesM n ρ) (ρ (bit n - 1)) where
  lt := fun b hb => by have := (mem_basesM.1 hb).1; have := bit_le n h.n8; omega
  eq := fun b hb => by have := mem_basesM.1 hb; omega
theorem bases_rk (h : RkM n ρ) {s : Nat} (hs : s < bit n) : rk (basesM n ρ) s = ρ s := by
  apply Nat.le_antisymm
  · obtain ⟨b, hb, e⟩ := rk_at h.bases_ne s
    obtain ⟨h1, h2, _⟩ := mem_basesM.1 hb
    rw [e, ← h.ind_sub h1 (sub_and_right s b) h2]
    exact h.mono hs (sub_and_left s b)
  · obtain ⟨I, _, i2, i3, i4⟩ := h.ext _ 0 s rfl hs (fun i hi => by rw [Nat.zero_testBit] at hi; cases hi) (by rw [h.zero, sz_zero])
    obtain ⟨J, j1, j2, j3, j4⟩ := h.ext _ I (bit n - 1) rfl (all_lt n) (fun i hi => by rw [testBit_all, decide_eq_true_eq]; exact bitM_in hs (i2 i hi)) i3
    have hJ : J ∈ basesM n ρ := mem_basesM.2 ⟨subM_lt j2 (all_lt n), j3, j4⟩
    have h1 := rk_ge s hJ
    have h2 : sz I ≤ sz (s &&& J) := sz_mono (fun i hi => by rw [Nat.testBit_and, i2 i hi, j1 i hi]; rfl)
    omega
theorem bases_exch (h : RkM n ρ) : Exch (basesM n ρ) := fun A hA C hC x hx hxC => by
  obtain ⟨a1, a2, a3⟩ := mem_basesM.1 hA
  obtain ⟨c1, c2, c3⟩ := mem_basesM.1 hC
  have hxn := bitM_in a1 hx
  have hn := h.n8
  have hA' : nand A (bit x) < bit n := nand_lt _ _ _ a1
  have hsz := sz_less (a := A) (i := x) (by omega) hx
  have hind := h.ind_sub a1 (dl_sub A x) a2
  have : ∃ y, C.testBit y = true ∧ ρ (nand A (bit x) ||| bit y) ≠ ρ (nand A (bit x)) := by
    apply Classical.byContradiction
    intro c
    have h1 := h.joins hA' c1 (fun i hb => Classical.byContradiction fun e => c ⟨i, hb, e⟩)
    have h2 := h.mono (orM_lt hA' c1) (sub_orM2 (nand A (bit x)) C)
    have hind' : ρ (nand A (bit x)) = sz (nand A (bit x)) := hind
    omega
  obtain ⟨y, hy, hne⟩ := this
  have hyn := bitM_in c1 hy
  have hyA' : (nand A (bit x)).testBit y = false := by
    cases c : (nand A (bit x)).testBit y
    · rfl
    · rw [orM_in c] at hne; exact absurd rfl hne
  have hyx : x ≠ y := by rintro rfl; rw [hy] at hxC; cases hxC
  have hyA : A.testBit y = false := by
    rw [nand_testBit, testBit_bit, decide_eq_false hyx] at hyA'
    simpa using hyA'
  refine ⟨y, hy, hyA, mem_basesM.2 ⟨orM_bit hA' hyn, ?_, ?_⟩⟩
  · have h1 := h.step _ y hA' hyn
    have h2 := sz_add (a := nand A (bit x)) (i := y) (by omega) hyA'
    have hind' : ρ (nand A (bit x)) = sz (nand A (bit x)) := hind
    omega
  · have h1 := h.step _ y hA' hyn
    have h2 := sz_add (a := nand A (bit x)) (i := y) (by omega) hyA'
    have hind' : ρ (nand A (bit x)) = sz (nand A (bit x)) := hind
    omega
theorem bases_mat (h : RkM n ρ) : MatL n (basesM n ρ) (ρ (bit n - 1)) where
  n8 := h.n8
  ne := h.bases_ne
  fam := h.bases_fam
  exch := h.bases_exch
  lt := fun b hb => (mem_basesM.1 hb).1
  rise := those_congr (fun s hs => bool_iff (by
    rw [memB_iff]
    unfold basesM
    rw [mem_those]
    exact ⟨fun h => ⟨hs, h⟩, fun h => h.2⟩))
end RkM

/-- ranks where some are gone, of these some contracted -/
def mnR (n gone c : Nat) (ρ : Nat → Nat) (t : Nat) : Nat := ρ (spTo gone t n ||| c) - ρ c
theorem sp_or (gone s t n : Nat) : spTo gone (s ||| t) n = spTo gone s n ||| spTo gone t n := by
  apply Nat.eq_of_testBit_eq
  intro j
  rw [Bool.eq_iff_iff, Nat.testBit_or, Bool.or_eq_true, spTo_testBit, spTo_testBit, spTo_testBit, Nat.testBit_or, Bool.or_eq_true]
  constructor
  · rintro ⟨h1, h2, h3 | h3⟩
    · exact .inl ⟨h1, h2, h3⟩
    · exact .inr ⟨h1, h2, h3⟩
  · rintro (⟨h1, h2, h3⟩ | ⟨h1, h2, h3⟩)
    · exact ⟨h1, h2, .inl h3⟩
    · exact ⟨h1, h2, .inr h3⟩
theorem sp_bit {gone n j : Nat} (hj : j < n) (hg : gone.testBit j = false) : spTo gone (bit (cnt gone j)) n = bit j := by
  apply Nat.eq_of_testBit_eq
  intro i
  rw [Bool.eq_iff_iff, spTo_testBit, testBit_bit, testBit_bit, decide_eq_true_eq, decide_eq_true_eq]
  constructor
  · rintro ⟨h1, h2, h3⟩; exact cnt_inj hg h2 h3
  · rintro rfl; exact ⟨hj, hg, rfl⟩
theorem sp_zero (gone n : Nat) : spTo gone 0 n = 0 := by
  apply Nat.eq_of_testBit_eq
  intro j
  rw [Bool.eq_iff_iff, spTo_testBit]
  simp
theorem sp_mono {gone s t n : Nat} (h : sub s t) : sub (spTo gone s n) (spTo gone t n) := fun j hj => by
  obtain ⟨h1, h2, h3⟩ := (spTo_testBit _ _ _ _).1 hj
  exact (spTo_testBit _ _ _ _).2 ⟨h1, h2, h _ h3⟩
theorem mnR_rk {n gone c : Nat} {ρ : Nat → Nat} (h : RkM n ρ) (hc : c < bit n) : RkM (cnt gone n) (mnR n gone c ρ) where
  n8 := by have := cnt_le gone n; have := h.n8; omega
  zero := by unfold mnR; rw [sp_zero, Nat.zero_or, Nat.sub_self]
  step := fun s i hs hi => by
    obtain ⟨j, hj, hg, e⟩ := cnt_onto hi
    subst e
    unfold mnR
    rw [sp_or, sp_bit hj hg, Nat.or_assoc, Nat.or_comm (bit j) c, ← Nat.or_assoc]
    have hl : spTo gone s n ||| c < bit n := orM_lt (spTo_lt gone s n) hc
    have h1 := h.step _ j hl hj
    have h2 := h.mono hl (sub_orM2 (spTo gone s n) c)
    omega
  clos := fun s u i hs hu hi hsu he => by
    obtain ⟨j, hj, hg, e⟩ := cnt_onto hi
    subst e
    unfold mnR at he ⊢
    rw [sp_or, sp_bit hj hg, Nat.or_assoc, Nat.or_comm (bit j) c, ← Nat.or_assoc] at he ⊢
    have hl1 : spTo gone s n ||| c < bit n := orM_lt (spTo_lt gone s n) hc
    have hl2 : spTo gone u n ||| c < bit n := orM_lt (spTo_lt gone u n) hc
    have k1 := h.mono hl1 (sub_orM2 (spTo gone s n) c)
    have k2 := h.mono (orM_bit hl1 hj) (sub_orM (spTo gone s n ||| c) (bit j))
    rw [h.clos _ (spTo gone u n ||| c) j hl1 hl2 hj (fun k hk => by
      rw [Nat.testBit_or, Bool.or_eq_true] at hk ⊢
      rcases hk with hk | hk
      · exact .inl (sp_mono hsu k hk)
      · exact .inr hk) (by omega)]
/-- two steps in one -/
theorem cnt_two {n d c : Nat} (hdc : ∀ j, c.testBit j = true → d.testBit j = false) : ∀ j, j ≤ n → cnt (prTo d c n) (cnt d j) = cnt (d ||| c) j := by
  intro j
  induction j with
  | zero => intro _; rfl
  | succ j ih =>
    intro hj
    have ih' := ih (by omega)
    cases hd : d.testBit j
    · rw [cnt_no hd]
      have hp : (prTo d c n).testBit (cnt d j) = c.testBit j := by
        rw [Bool.eq_iff_iff, prTo_testBit]
        constructor
        · rintro ⟨k, k1, k2, k3, k4⟩
          have := cnt_inj k2 hd k3
          subst this; exact k4
        · intro h; exact ⟨j, by omega, hd, rfl, h⟩
      cases hc : c.testBit j
      · rw [hc] at hp
        rw [cnt_no hp, cnt_no (show (d ||| c).testBit j = false by rw [Nat.testBit_or, hd, hc]; rfl), ih']
      · rw [hc] at hp
        rw [cnt_yes hp, cnt_yes (show (d ||| c).testBit j = true by rw [Nat.testBit_or, hd, hc]; rfl), ih']
    · rw [cnt_yes hd, cnt_yes (show (d ||| c).testBit j = true by rw [Nat.testBit_or, hd]; rfl), ih']
theorem pr_at {n d c j : Nat} (hj : j < n) (hd : d.testBit j = false) : (prTo d c n).testBit (cnt d j) = c.testBit j := by
  rw [Bool.eq_iff_iff, prTo_testBit]
  constructor
  · rintro ⟨k, k1, k2, k3, k4⟩
    have := cnt_inj k2 hd k3
    subst this; exact k4
  · intro h; exact ⟨j, hj, hd, rfl, h⟩
theorem sp_two {n d c t : Nat} (hdc : ∀ j, c.testBit j = true → d.testBit j = false) : spTo d (spTo (prTo d c n) t (cnt d n)) n = spTo (d ||| c) t n := by
  apply Nat.eq_of_testBit_eq
  intro j
  rw [Bool.eq_iff_iff, spTo_testBit, spTo_testBit, spTo_testBit, Nat.testBit_or, Bool.or_eq_false_iff]
  constructor
  · rintro ⟨h1, h2, h3, h4, h5⟩
    rw [pr_at h1 h2] at h4
    rw [cnt_two hdc j (by omega)] at h5
    exact ⟨h1, ⟨h2, h4⟩, h5⟩
  · rintro ⟨h1, ⟨h2, h4⟩, h5⟩
    refine ⟨h1, h2, cnt_lt h1 h2, by rw [pr_at h1 h2]; exact h4, ?_⟩
    rw [cnt_two hdc j (by omega)]; exact h5
/-- deleting by ranks -/
theorem del_bases {n d : Nat} {L : List Nat} : those (cnt d n) (ofRank (cnt d n) (delR n L d)) = basesM (cnt d n) (mnR n d 0 (rk L)) := by
  unfold basesM
  have : ∀ t, delR n L d t = ((mnR n d 0 (rk L) t : Nat) : Int) := fun t => by
    unfold delR mnR
    rw [Nat.or_zero, rk_zero, Nat.sub_zero]
  refine those_congr (fun s hs => ?_)
  unfold ofRank
  rw [this, this]
/-- contracting behind deleting -/
theorem con_bases {n d c : Nat} {L : List Nat} (hρ : RkM n (rk L)) (hc : c < bit n) (hdc : ∀ j, c.testBit j = true → d.testBit j = false) :
    those (cnt (prTo d c n) (cnt d n)) (ofRank (cnt (prTo d c n) (cnt d n)) (conR (cnt d n) (basesM (cnt d n) (mnR n d 0 (rk L))) (prTo d c n))) = basesM (cnt (d ||| c) n) (mnR n (d ||| c) c (rk L)) := by
  have hm := mnR_rk (gone := d) (c := 0) hρ (Nat.two_pow_pos n)
  have hpl := prTo_lt d c n
  have hsp : spTo d (prTo d c n) n = c := by
    rw [sp_pr hc]
    apply Nat.eq_of_testBit_eq
    intro j
    rw [nand_testBit]
    cases h : c.testBit j
    · rfl
    · rw [hdc j h]; rfl
  have key : ∀ t, conR (cnt d n) (basesM (cnt d n) (mnR n d 0 (rk L))) (prTo d c n) t = ((mnR n (d ||| c) c (rk L) t : Nat) : Int) := fun t => by
    unfold conR
    rw [hm.bases_rk (orM_lt (spTo_lt _ _ _) hpl), hm.bases_rk hpl]
    unfold mnR
    rw [sp_or, sp_two hdc, hsp, Nat.or_zero, Nat.or_zero, rk_zero, Nat.sub_zero, Nat.sub_zero]
    have := hρ.mono (orM_lt (spTo_lt (d ||| c) t n) hc) (sub_orM2 (spTo (d ||| c) t n) c)
    omega
  have hcn := cnt_two hdc n (Nat.le_refl _)
  generalize basesM (cnt d n) (mnR n d 0 (rk L)) = BB at key ⊢
  unfold basesM
  rw [hcn]
  refine those_congr (fun s hs => ?_)
  unfold ofRank
  rw [key, key]
end Go.Proofs.Ytdcdhdlklppalaa

namespace Go.Proofs.Ytdcdhdlklppalaa
set_option linter.unusedVariables false

/-- left are those that are not gone -/
def LeftIs (n gone left : Nat) : Prop := ∀ j, j < n → left.testBit j = !gone.testBit j
theorem left_len {n gone left : Nat} (h : LeftIs n gone left) : ∀ k, k ≤ n → (elemsTo left k).length = cnt gone k := by
  intro k
  induction k with
  | zero => intro _; rfl
  | succ k ih =>
    intro hk
    have ih' := ih (by omega)
    rw [elemsTo_step]
    have hb := h k (by omega)
    cases hg : gone.testBit k
    · rw [hg] at hb
      rw [if_pos (show left.testBit k = true by rw [hb]; rfl), List.length_append, ih', cnt_no hg]; rfl
    · rw [hg] at hb
      rw [if_neg (by rw [hb]; decide), ih', cnt_yes hg]
theorem left_at {n gone left : Nat} (h : LeftIs n gone left) : ∀ k, k ≤ n → ∀ j, j < k → gone.testBit j = false → (elemsTo left k).getD (cnt gone j) 0 = j := by
  intro k
  induction k with
  | zero => intro _ j hj; omega
  | succ k ih =>
    intro hk j hj hg
    have hl := left_len h k (by omega)
    rw [elemsTo_step]
    by_cases e : j = k
    · subst e
      have hb := h j (by omega)
      rw [hg] at hb
      rw [if_pos (show left.testBit j = true by rw [hb]; rfl), ← hl]
      exact getD_snocP_eq _ _
    · have ih' := ih (by omega) j (by omega) hg
      have hlt := cnt_lt (show j < k by omega) hg
      split
      · rw [getD_snocP_lt (by omega)]; exact ih'
      · exact ih'
theorem left_img {n gone left : Nat} (h : LeftIs n gone left) (s : Nat) : img (elemsTo left n) s = spTo gone s n := by
  apply Nat.eq_of_testBit_eq
  intro j
  rw [Bool.eq_iff_iff, img_testBit, spTo_testBit]
  have hl := left_len h n (Nat.le_refl _)
  constructor
  · rintro ⟨t, h1, h2, h3⟩
    rw [hl] at h1
    obtain ⟨i, hi, hg, e⟩ := cnt_onto h1
    subst e
    rw [left_at h n (Nat.le_refl _) i hi hg] at h3
    subst h3
    exact ⟨hi, hg, h2⟩
  · rintro ⟨h1, h2, h3⟩
    exact ⟨cnt gone j, by rw [hl]; exact cnt_lt h1 h2, h3, left_at h n (Nat.le_refl _) j h1 h2⟩
theorem left_nand (n gone : Nat) : LeftIs n gone (nand (bit n - 1) gone) := fun j hj => by
  rw [nand_testBit, testBit_all, decide_eq_true hj]; simp

theorem MatL.fam8' {n r : Nat} {L : List Nat} (h : MatL n L r) : isFam (n : Int) (ints L) := by
  have hn := h.n8
  have hb := bit_le n hn
  have hpw : L.Pairwise (· < ·) := by rw [h.rise]; exact those_pwN _ _
  refine ⟨by omega, by omega, fun i hi => ?_⟩
  rw [ints_len] at hi
  have h1 : L.getD i 0 < bit n := h.lt _ (by simp [hi])
  rw [ints_getD, all_nat]
  refine ⟨by omega, by omega, fun h0 => ?_⟩
  rw [ints_getD]
  have h2 := List.pairwise_iff_getElem.1 hpw (i - 1) i (by omega) hi (by omega)
  have e1 : L.getD (i - 1) 0 = L[i - 1] := by simp [show i - 1 < L.length by omega]
  have e2 : L.getD i 0 = L[i] := by simp [hi]
  omega
theorem toN_ints_eq (L : List Nat) : toN (ints L) = L := by
  apply List.ext_getElem
  · simp [toN, ints]
  · intro i h1 h2; simp [toN, ints]
theorem MatL.is {n r : Nat} {L : List Nat} (h : MatL n L r) : MatIs (n : Int) (ints L) 0 := by
  have hok : okM (n : Int) (ints L) := by
    refine ⟨h.fam8', fun e => h.ne (by cases L with | nil => rfl | cons a t => cases e), fun i hi => ?_⟩
    rw [toN_ints_eq] at hi ⊢
    have h1 : L.getD i 0 ∈ L := by simp [hi]
    have h2 : L.getD 0 0 ∈ L := by simp [show 0 < L.length by omega]
    rw [h.fam.eq _ h1, h.fam.eq _ h2]
  exact ⟨fun c => absurd hok c, fun _ c => absurd (by rw [toN_ints_eq]; exact h.exch) c, fun _ _ => rfl⟩
theorem MatIs.matL {n : Nat} {l : List Int} (h : MatIs (n : Int) l 0) : MatL n (toN l) (sz ((toN l).getD 0 0)) ∧ ints (toN l) = l ∧ (toN l).length ≤ 256 := by
  have hok := h.ok.1
  have hq : ints (toN l) = l := ints_toN (fun i hi => (hok.1.2.2 i hi).1)
  obtain ⟨m, L, e1, hm, e2, hlt, hpw, hlen, _⟩ := fam_open hok.1
  have e3 : n = m := Int.ofNat.inj e1
  subst e3
  subst e2
  rw [toN_ints_eq] at *
  refine ⟨⟨hm, fun e => hok.2.1 (by rw [e]; rfl), by have := hok.fam8; rwa [toN_ints_eq] at this, by have := h.ok.2; rwa [toN_ints_eq] at this, hlt, ?_⟩, rfl, hlen⟩
  exact nat_ext hpw (those_pwN _ _) (fun x => by
    rw [mem_those, memB_iff]
    exact ⟨fun hx => ⟨hlt x hx, hx⟩, fun hx => hx.2⟩)

/-! ### the search -/
/-- what is left where d is deleted and c contracted -/
def mnL (n d c : Nat) (L : List Nat) : List Nat := basesM (cnt (d ||| c) n) (mnR n (d ||| c) c (rk L))
/-- its rank -/
def mnK (n d c : Nat) (L : List Nat) : Nat := rk L (nand (bit n - 1) (d ||| c) ||| c) - rk L c
/-- the first order that makes the one of the other -/
def isoFN (n1 n2 : Nat) (L1 L2 : List Nat) : Option (List Nat) := if n1 = n2 ∧ L1.length = L2.length then (ords n1 L1 L2).head? else none
/-- it is the other one -/
def MnP (n q : Nat) (L K : List Nat) (d c : Nat) : Prop := c &&& d = 0 ∧ cnt (d ||| c) n = q ∧ mnK n d c L = rk K (bit q - 1) ∧ (mnL n d c L).length = K.length ∧ isoFN q q (mnL n d c L) K ≠ none
theorem mnK_full {n d c : Nat} {L : List Nat} : mnR n (d ||| c) c (rk L) (bit (cnt (d ||| c) n) - 1) = mnK n d c L := by
  unfold mnR mnK
  rw [sp_all]
/-- the first that is -/
def FirstM (P : Nat → Nat → Prop) (N : Nat) (r : Option (Nat × Nat)) : Prop := (r = none ∧ ∀ d c, d < N → c < N → ¬ P d c) ∨ ∃ d c, r = some (d, c) ∧ d < N ∧ c < N ∧ P d c ∧ (∀ d' c', d' < d → c' < N → ¬ P d' c') ∧ ∀ c', c' < c → ¬ P d c'
theorem FirstM.uniq {P : Nat → Nat → Prop} {N : Nat} {r s : Option (Nat × Nat)} (h : FirstM P N r) (g : FirstM P N s) : r = s := by
  rcases h with ⟨rfl, h⟩ | ⟨d, c, rfl, h1, h2, h3, h4, h5⟩ <;> rcases g with ⟨rfl, g⟩ | ⟨d', c', rfl, g1, g2, g3, g4, g5⟩
  · rfl
  · exact absurd g3 (h _ _ g1 g2)
  · exact absurd h3 (g _ _ h1 h2)
  · have e1 : ¬ d < d' := fun x => g4 d c x h2 h3
    have e2 : ¬ d' < d := fun x => h4 d' c' x g2 g3
    have e3 : d = d' := by omega
    subst e3
    have e4 : ¬ c < c' := fun x => g5 c x h3
    have e5 : ¬ c' < c := fun x => h5 c' x g3
    have e6 : c = c' := by omega
    subst e6; rfl
theorem FirstM.congr {P Q : Nat → Nat → Prop} {N : Nat} {r : Option (Nat × Nat)} (h : FirstM P N r) (e : ∀ d c, d < N → c < N → (P d c ↔ Q d c)) : FirstM Q N r := by
  rcases h with ⟨h1, h2⟩ | ⟨d, c, h1, h2, h3, h4, h5, h6⟩
  · exact .inl ⟨h1, fun d c hd hc hq => h2 d c hd hc ((e d c hd hc).2 hq)⟩
  · exact .inr ⟨d, c, h1, h2, h3, (e d c h2 h3).1 h4, fun d' c' hd hc hq => h5 d' c' hd hc ((e d' c' (by omega) hc).2 hq), fun c' hc hq => h6 c' hc ((e d c' h2 (by omega)).2 hq)⟩
end Go.Proofs.Ytdcdhdlklppalaa

namespace Go.Proofs.Ytdcdhdlklppalaa
open Go.RowKit
set_option linter.unusedVariables false

theorem iso_same {n1 n2 r1 r2 : Nat} {L1 L2 : List Nat} (h1 : MatL n1 L1 r1) (h2 : MatL n2 L2 r2) : (ordF false n1 n2 L1 L2).head? = isoFN n1 n2 L1 L2 := by
  unfold ordF isoFN cutF
  by_cases c : n1 = n2 ∧ L1.length = L2.length
  · rw [if_pos c, if_pos c]
    obtain ⟨rfl, hl⟩ := c
    rw [ords_same h1 h2 hl]
    cases srch n1 (okH n1 L1 L2) (finB L1 L2) n1 [] <;> rfl
  · rw [if_neg c, if_neg c]; rfl
theorem MatL.head {n r : Nat} {L : List Nat} (h : MatL n L r) : sz (L.getD 0 0) = r := by
  have h0 : 0 < L.length := List.length_pos_iff.2 h.ne
  exact h.fam.eq _ (by simp [h0])
theorem MatL.full {n r : Nat} {L : List Nat} (h : MatL n L r) : rk L (bit n - 1) = r := rk_all h.ne h.fam h.lt
theorem mnL_mt {n d c : Nat} {L : List Nat} (hρ : RkM n (rk L)) (hc : c < bit n) : MatL (cnt (d ||| c) n) (mnL n d c L) (mnK n d c L) := by
  have := (mnR_rk (gone := d ||| c) hρ hc).bases_mat
  rwa [mnK_full] at this
theorem mnL_del {n d : Nat} {L : List Nat} : those (cnt d n) (ofRank (cnt d n) (delR n L d)) = mnL n d 0 L := by
  rw [del_bases]
  unfold mnL
  rw [Nat.or_zero]
theorem disj_bits {c d : Nat} (h : c &&& d = 0) : ∀ j, c.testBit j = true → d.testBit j = false := fun j hj => by
  have h1 : (c &&& d).testBit j = false := by rw [h]; simp
  rw [Nat.testBit_and, hj] at h1
  simpa using h1
theorem mnL_con {n d c : Nat} {L : List Nat} (hρ : RkM n (rk L)) (hc : c < bit n) (hdc : c &&& d = 0) :
    those (cnt (prTo d c n) (cnt d n)) (ofRank (cnt (prTo d c n) (cnt d n)) (conR (cnt d n) (mnL n d 0 L) (prTo d c n))) = mnL n d c L := by
  have h := con_bases hρ hc (disj_bits hdc)
  unfold mnL
  rw [Nat.or_zero]
  exact h
theorem cnt_pr {n d c : Nat} (hdc : c &&& d = 0) : cnt (prTo d c n) (cnt d n) = cnt (d ||| c) n := cnt_two (disj_bits hdc) n (Nat.le_refl _)
theorem cnt_dc {n d c : Nat} (hn : n ≤ 8) (hd : d < bit n) (hc : c < bit n) (h : c &&& d = 0) : cnt (d ||| c) n + sz d + sz c = n := by
  have h1 := cnt_sz (gone := d ||| c) hn (or_lt_bit hd hc)
  have h2 := sz_incl d c
  rw [Nat.and_comm, h] at h2
  rw [show sz 0 = 0 from rfl] at h2
  omega
/-- what rotaref.Minor tests -/
def MnQ (n q : Nat) (L K : List Nat) (d c : Nat) : Prop := q + sz d ≤ n ∧ c &&& d = 0 ∧ q + sz d + sz c = n ∧ (mnL n d c L).length = K.length ∧ sz ((mnL n d c L).getD 0 0) = sz (K.getD 0 0) ∧ (ordF false q q (mnL n d c L) K).head? ≠ none
theorem mnQ_iff {n q r k : Nat} {L K : List Nat} (hρ : RkM n (rk L)) (hK : MatL q K k) {d c : Nat} (hd : d < bit n) (hc : c < bit n) : MnQ n q L K d c ↔ MnP n q L K d c := by
  unfold MnQ MnP
  by_cases h : c &&& d = 0
  case neg => exact ⟨fun x => absurd x.2.1 h, fun x => absurd x.1 h⟩
  have h1 := cnt_dc hρ.n8 hd hc h
  have hY := mnL_mt (d := d) hρ hc
  rw [hY.head, hK.head, hK.full]
  by_cases hq : cnt (d ||| c) n = q
  case neg => exact ⟨fun x => absurd (by omega) hq, fun x => absurd x.2.1 hq⟩
  rw [hq] at hY
  rw [iso_same hY hK]
  exact ⟨fun x => ⟨h, hq, x.2.2.2.2.1, x.2.2.2.1, x.2.2.2.2.2⟩, fun x => ⟨by omega, h, by omega, x.2.2.2.1, x.2.2.1, x.2.2.2.2⟩⟩
end Go.Proofs.Ytdcdhdlklppalaa
