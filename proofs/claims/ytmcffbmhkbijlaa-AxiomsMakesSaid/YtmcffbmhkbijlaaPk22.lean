
/-
  What the check of a matroid tells where it finds nothing, plainly.
  Orders that make a matroid of another one: by ranks and by bases, plainly. No program in sight.
-/
import Derived.Test.YtmcffbmhkbijlaaPk05
import Derived.Test.YtmcffbmhkbijlaaPk11
import Derived.Test.YtmcffbmhkbijlaaPk10
namespace Go.Proofs.Ytmcffbmhkbijlaa
set_option linter.unusedVariables false

theorem MatIs.ok {n : Int} {l : List Int} (h : MatIs n l 0) : okM n l ∧ Exch (toN l) := by
  by_cases c : okM n l
  · refine ⟨c, ?_⟩
    apply Classical.byContradiction
    intro g
    exact absurd (h.2.1 c g) (by decide)
  · exact absurd (h.1 c) (by decide)
end Go.Proofs.Ytmcffbmhkbijlaa

namespace Go.Proofs.Ytmcffbmhkbijlaa
set_option linter.unusedVariables false

/-- a matroid's bases, in order -/
structure MatL (n : Nat) (L : List Nat) (r : Nat) : Prop where
  n8 : n ≤ 8
  ne : L ≠ []
  fam : Fam8 L r
  exch : Exch L
  lt : ∀ b, b ∈ L → b < bit n
  rise : L = those n (memB L)
/-- by ranks -/
def IsoR (n : Nat) (L1 L2 : List Nat) (q : List Nat) : Prop := ∀ s, s < bit n → rk L1 s = rk L2 (img q s)
/-- by bases -/
def IsoB (L1 L2 : List Nat) (q : List Nat) : Prop := ∀ b, b ∈ L1 → img q b ∈ L2
/-- how many circuits of a size an element is in -/
def hab (n : Nat) (L : List Nat) (i t : Nat) : Int := isum (fun s => if circP L s = true ∧ s.testBit i = true ∧ sz s = t then 1 else 0) (bit n)

theorem memB_iff {l : List Nat} {s : Nat} : memB l s = true ↔ s ∈ l := by unfold memB; exact decide_eq_true_iff
theorem those_count (n : Nat) (p : Nat → Bool) : ((those n p).length : Int) = isum (fun s => if p s = true then 1 else 0) (bit n) := by
  have h : ∀ k, ((thoseTo p k).length : Int) = isum (fun s => if p s = true then 1 else 0) k := by
    intro k
    induction k with
    | zero => rfl
    | succ k ih =>
      rw [thoseTo_step]
      simp only [isum]
      by_cases c : p k = true
      · rw [if_pos c, if_pos c, List.length_append, ← ih]; simp
      · rw [if_neg c, if_neg c, ih]; omega
  exact h (bit n)
section
variable {n r1 r2 : Nat} {L1 L2 : List Nat} {q : List Nat}
theorem IsoR.bases (h1 : MatL n L1 r1) (h2 : MatL n L2 r2) (hq : Pm n q) (h : IsoR n L1 L2 q) : IsoB L1 L2 q := fun b hb => by
  have hbn := bit_le n h1.n8
  have hbl := h1.lt b hb
  have hi : Ind L1 b := ⟨b, hb, fun _ h => h⟩
  have e1 := h b hbl
  rw [rk_self hi, ← hq.img_sz h1.n8 hbl] at e1
  have hlt := hq.img_lt b
  have hi2 : Ind L2 (img q b) := (ind_rk h2.ne (by omega)).2 e1.symm
  have e2 := h (bit n - 1) (all_lt n)
  rw [hq.img_all, rk_all h1.ne h1.fam h1.lt, rk_all h2.ne h2.fam h2.lt] at e2
  refine mem_of_ind_sz h2.fam (by omega) hi2 ?_
  rw [hq.img_sz h1.n8 hbl, h1.fam.eq b hb, e2]
/-- one for one: each basis of the other is met -/
theorem IsoB.onto (h1 : MatL n L1 r1) (h2 : MatL n L2 r2) (hq : Pm n q) (hl : L1.length = L2.length) (h : IsoB L1 L2 q) {b : Nat} (hb : b ∈ L2) : ∃ a, a ∈ L1 ∧ img q a = b := by
  have c1 : isum (fun s => if memB L1 s = true then (1 : Int) else 0) (bit n) = isum (fun s => if memB L2 s = true then 1 else 0) (bit n) := by
    rw [← those_count, ← those_count, ← h1.rise, ← h2.rise, hl]
  rw [← isum_perm (σ := img q) (fun s _ => hq.img_lt s) (fun s t hs ht e => hq.img_inj hs ht e) (fun s => if memB L2 s = true then (1 : Int) else 0)] at c1
  obtain ⟨a, ha, e⟩ := hq.img_onto (h2.lt b hb)
  have h3 := isum_eq_all (f := fun s => if memB L1 s = true then (1 : Int) else 0) (g := fun s => if memB L2 (img q s) = true then (1 : Int) else 0) (n := bit n) (fun s hs => by
    by_cases c : memB L1 s = true
    · rw [if_pos c, if_pos (memB_iff.2 (h s (memB_iff.1 c)))]; exact Int.le_refl _
    · rw [if_neg c]; split <;> omega) (Int.le_of_eq c1.symm) a ha
  refine ⟨a, ?_, e⟩
  simp only [e] at h3
  rw [if_pos (memB_iff.2 hb)] at h3
  apply Classical.byContradiction
  intro c
  rw [if_neg (fun d => c (memB_iff.1 d))] at h3
  cases h3
theorem IsoB.ranks (h1 : MatL n L1 r1) (h2 : MatL n L2 r2) (hq : Pm n q) (hl : L1.length = L2.length) (h : IsoB L1 L2 q) : IsoR n L1 L2 q := fun s hs => by
  have e : ∀ b, b ∈ L1 → sz (img q s &&& img q b) = sz (s &&& b) := fun b hb => by
    rw [← hq.img_and, hq.img_sz h1.n8 (Nat.lt_of_le_of_lt Nat.and_le_left hs)]
  apply Nat.le_antisymm
  · obtain ⟨b, hb, eb⟩ := rk_at h1.ne s
    have := rk_ge (img q s) (h b hb)
    rw [e b hb] at this
    omega
  · obtain ⟨b, hb, eb⟩ := rk_at h2.ne (img q s)
    obtain ⟨a, ha, rfl⟩ := h.onto h1 h2 hq hl hb
    rw [e a ha] at eb
    have := rk_ge s ha
    omega
theorem IsoR.circ (h1 : MatL n L1 r1) (h2 : MatL n L2 r2) (hq : Pm n q) (h : IsoR n L1 L2 q) {s : Nat} (hs : s < bit n) : circP L2 (img q s) = circP L1 s := by
  have hbn := bit_le n h1.n8
  have hd : ∀ i, i < n → rk L2 (nand (img q s) (bit (q.getD i 0))) = rk L1 (nand s (bit i)) ∧ sz (nand (img q s) (bit (q.getD i 0))) = sz (nand s (bit i)) := fun i hi => by
    have hl : nand s (bit i) < bit n := nand_lt _ _ _ hs
    rw [← hq.img_bit hi, ← hq.img_nand, hq.img_sz h1.n8 hl, h _ hl]
    exact ⟨rfl, rfl⟩
  rw [Bool.eq_iff_iff, circP_iff, circP_iff, ← h s hs, hq.img_sz h1.n8 hs]
  constructor
  · rintro ⟨a, b⟩
    refine ⟨a, fun i hi hb => ?_⟩
    have hin : i < n := by
      by_cases c : i < n
      · exact c
      · rw [bit_hi hs (by omega)] at hb; cases hb
    have := b (q.getD i 0) (by have := hq.lt i hin; have := h1.n8; omega) (by rw [hq.img_at s hin]; exact hb)
    rw [(hd i hin).1, (hd i hin).2] at this
    exact this
  · rintro ⟨a, b⟩
    refine ⟨a, fun j hj hb => ?_⟩
    have hjn : j < n := by
      by_cases c : j < n
      · exact c
      · rw [bit_hi (hq.img_lt s) (by omega)] at hb; cases hb
    obtain ⟨i, hi, rfl⟩ := hq.onto hjn
    rw [hq.img_at s hi] at hb
    rw [(hd i hi).1, (hd i hi).2]
    exact b i (by have := h1.n8; omega) hb
theorem IsoR.hab (h1 : MatL n L1 r1) (h2 : MatL n L2 r2) (hq : Pm n q) (h : IsoR n L1 L2 q) {i : Nat} (hi : i < n) (t : Nat) : hab n L1 i t = hab n L2 (q.getD i 0) t := by
  unfold Go.Proofs.Ytmcffbmhkbijlaa.hab
  rw [← isum_perm (σ := img q) (fun s _ => hq.img_lt s) (fun s t hs ht e => hq.img_inj hs ht e) (fun s => if circP L2 s = true ∧ s.testBit (q.getD i 0) = true ∧ sz s = t then (1 : Int) else 0)]
  refine isum_congr (fun s hs => ?_)
  rw [h.circ h1 h2 hq hs, hq.img_at s hi, hq.img_sz h1.n8 hs]
end

/-! ### the two searches -/
/-- all sets of those that are named, with the new one, have the same ranks -/
def okR (L1 L2 : List Nat) (p : List Nat) (k : Nat) : Bool := decide (∀ t, t < bit p.length → rk L1 (bit p.length + t) = rk L2 (img (p ++ [k]) (bit p.length + t)))
def okH (n : Nat) (L1 L2 : List Nat) (p : List Nat) (k : Nat) : Bool := (List.range 10).all (fun t => decide (hab n L1 p.length t = hab n L2 k t))
theorem okH_iff {n : Nat} {L1 L2 p : List Nat} {k : Nat} : okH n L1 L2 p k = true ↔ ∀ t, t < 10 → hab n L1 p.length t = hab n L2 k t := by
  unfold okH; rw [List.all_eq_true]
  exact ⟨fun h t ht => of_decide_eq_true (h t (List.mem_range.2 ht)), fun h t ht => decide_eq_true (h t (List.mem_range.1 ht))⟩
def finB (L1 L2 : List Nat) (q : List Nat) : Bool := decide (∀ b, b ∈ L1 → img q b ∈ L2)
theorem img_take {q : List Nat} {k s : Nat} (hk : k ≤ q.length) (hs : s < bit k) : img (q.take k) s = img q s := by
  apply Nat.eq_of_testBit_eq
  intro j
  rw [Bool.eq_iff_iff, img_testBit, img_testBit]
  have hl : (q.take k).length = k := by simp; omega
  have hg : ∀ i, i < k → (q.take k).getD i 0 = q.getD i 0 := fun i hi => by
    rw [List.getD_eq_getElem?_getD, List.getD_eq_getElem?_getD, List.getElem?_take, if_pos hi]
  constructor
  · rintro ⟨i, h1, h2, h3⟩
    rw [hl] at h1
    exact ⟨i, by omega, h2, by rw [← hg i h1]; exact h3⟩
  · rintro ⟨i, h1, h2, h3⟩
    have hik : i < k := by
      by_cases c : i < k
      · exact c
      · rw [bit_hi hs (by omega)] at h2; cases h2
    exact ⟨i, by omega, h2, by rw [hg i hik]; exact h3⟩
theorem take_snoc {q : List Nat} {j : Nat} (h : j < q.length) : q.take j ++ [q.getD j 0] = q.take (j + 1) := by
  rw [List.take_add_one]; simp [h]
theorem goodR_iff {n : Nat} {L1 L2 q : List Nat} (hq : Pm n q) : GoodS (okR L1 L2) (fun _ => true) 0 q ↔ IsoR n L1 L2 q := by
  have hlen := hq.len
  have hl : ∀ j, j < n → (q.take j).length = j := fun j hj => by simp; omega
  constructor
  · rintro ⟨h, _⟩ s hs
    by_cases h0 : s = 0
    · subst h0
      rw [rk_zero, hq.img_zero, rk_zero]
    · have a1 : bit (Nat.log2 s) ≤ s := Nat.log2_self_le h0
      have a2 : s < bit (Nat.log2 s + 1) := Nat.lt_log2_self
      generalize Nat.log2 s = i at a1 a2
      have hin : i < n := by
        by_cases c : i < n
        · exact c
        · have := bit_mono (show n ≤ i by omega); omega
      have a3 : bit (i + 1) = bit i + bit i := by unfold bit; rw [Nat.pow_succ]; omega
      have := h i (Nat.zero_le _) (by omega)
      unfold okR at this
      rw [decide_eq_true_eq, hl i hin, take_snoc (by omega)] at this
      have h3 := this (s - bit i) (by omega)
      rw [show bit i + (s - bit i) = s by omega, img_take (by omega) a2] at h3
      exact h3
  · intro h
    refine ⟨fun j _ hj => ?_, rfl⟩
    have hjn : j < n := by omega
    have a3 : bit (j + 1) = bit j + bit j := by unfold bit; rw [Nat.pow_succ]; omega
    have a4 := bit_mono (show j + 1 ≤ n by omega)
    unfold okR
    rw [decide_eq_true_eq, hl j hjn, take_snoc hj]
    intro t ht
    rw [img_take (by omega) (by omega)]
    exact h _ (by omega)
theorem goodH_iff {n r1 r2 : Nat} {L1 L2 q : List Nat} (h1 : MatL n L1 r1) (h2 : MatL n L2 r2) (hl : L1.length = L2.length) (hq : Pm n q) : GoodS (okH n L1 L2) (finB L1 L2) 0 q ↔ IsoR n L1 L2 q := by
  have hlen := hq.len
  constructor
  · rintro ⟨_, h⟩
    have h' : ∀ b, b ∈ L1 → img q b ∈ L2 := of_decide_eq_true h
    have : IsoB L1 L2 q := h'
    exact this.ranks h1 h2 hq hl
  · intro h
    refine ⟨fun j _ hj => ?_, decide_eq_true (show ∀ b, b ∈ L1 → img q b ∈ L2 from h.bases h1 h2 hq)⟩
    have e : (q.take j).length = j := by simp; omega
    rw [okH_iff, e]
    exact fun t _ => h.hab h1 h2 hq (by omega) t
/-- all the orders that make the one of the other, in order -/
def ords (n : Nat) (L1 L2 : List Nat) : List (List Nat) := srch n (okR L1 L2) (fun _ => true) n []
theorem ords_same {n r1 r2 : Nat} {L1 L2 : List Nat} (h1 : MatL n L1 r1) (h2 : MatL n L2 r2) (hl : L1.length = L2.length) : ords n L1 L2 = srch n (okH n L1 L2) (finB L1 L2) n [] :=
  srch_same n [] (Pre.nil n) (fun q _ hq hp => by
    have hpm := hp.pm (n := n) (by simpa using hq)
    rw [show ([] : List Nat).length = 0 from rfl, goodR_iff hpm, goodH_iff h1 h2 hl hpm])
theorem mem_ords {n : Nat} {L1 L2 q : List Nat} : q ∈ ords n L1 L2 ↔ Pm n q ∧ IsoR n L1 L2 q := by
  unfold ords
  rw [mem_srch n [] q (Pre.nil n)]
  constructor
  · rintro ⟨_, h2, h3, h4⟩
    have hpm := h3.pm (n := n) (by simpa using h2)
    exact ⟨hpm, (goodR_iff hpm).1 h4⟩
  · rintro ⟨h1, h2⟩
    exact ⟨List.nil_prefix, by simpa using h1.len, ⟨fun i hi => h1.lt i (by rw [← h1.len]; exact hi), fun i j hi hj e => h1.inj i j (by rw [← h1.len]; exact hi) (by rw [← h1.len]; exact hj) e⟩, (goodR_iff h1).2 h2⟩
end Go.Proofs.Ytmcffbmhkbijlaa
