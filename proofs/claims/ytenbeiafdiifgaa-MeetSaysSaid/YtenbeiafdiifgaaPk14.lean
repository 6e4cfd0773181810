
/-
  Matroids, plainly: circuits, flats, hyperplanes by ranks. No program in sight.
  rotaref.Matroid.
-/
import Derived.Test.YtenbeiafdiifgaaPk04
import Derived.Test.YtenbeiafdiifgaaPk12
namespace Go.Proofs.Ytenbeiafdiifgaa
set_option linter.unusedVariables false

theorem and_lt256 {s b : Nat} (hs : s < 256) : s &&& b < 256 := Nat.lt_of_le_of_lt Nat.and_le_left hs
theorem sub_anti {a b : Nat} (ha : a < 256) (hb : b < 256) (h : sub a b) (k : sub b a) : a = b := eq_of_bits ha hb (fun i hi => by rw [Bool.eq_iff_iff]; exact ⟨h i, k i⟩)
theorem Ind.down {L : List Nat} {s t : Nat} (h : Ind L t) (hs : sub s t) : Ind L s := by
  obtain ⟨b, hb, hsub⟩ := h
  exact ⟨b, hb, sub_trans hs hsub⟩
theorem ind_rk {L : List Nat} (hne : L ≠ []) {s : Nat} (hs : s < 256) : Ind L s ↔ rk L s = sz s := by
  constructor
  · intro h
    have h1 := rk_ind h (fun _ h => h)
    have h2 := rk_le L s
    omega
  · intro h
    obtain ⟨b, hb, e⟩ := rk_at hne s
    refine ⟨b, hb, ?_⟩
    have h1 : s &&& b = s := eq_of_sub_sz (and_lt256 hs) hs (sub_and_left s b) (by omega)
    intro i hi
    rw [← h1, Nat.testBit_and] at hi
    simp at hi; exact hi.2

/-- least among the sets that lie in no basis -/
def Circ (L : List Nat) (s : Nat) : Prop := ¬ Ind L s ∧ ∀ t, t < 256 → sub t s → t ≠ s → Ind L t
theorem sub_lt256 {s t : Nat} (hs : s < 256) (h : sub t s) : t < 256 := by
  have : t ||| s = s := or_eq_iff.2 h
  have h2 : t ≤ t ||| s := Nat.left_le_or
  omega
theorem dep_circ {L : List Nat} : ∀ k s, s < 256 → sz s = k → ¬ Ind L s → ∃ c, c < 256 ∧ sub c s ∧ Circ L c := by
  intro k
  induction k using Nat.strongRecOn with
  | _ k ih =>
    intro s hs hk hd
    by_cases h : ∃ t, t < 256 ∧ sub t s ∧ t ≠ s ∧ ¬ Ind L t
    · obtain ⟨t, h1, h2, h3, h4⟩ := h
      have hlt : sz t < k := by
        apply Classical.byContradiction
        intro g
        exact h3 (eq_of_sub_sz h1 hs h2 (by omega))
      obtain ⟨c, h5, h6, h7⟩ := ih _ hlt t h1 rfl h4
      exact ⟨c, h5, sub_trans h6 h2, h7⟩
    · exact ⟨s, hs, fun _ h => h, hd, fun t ht hts hne => Classical.byContradiction fun g => h ⟨t, ht, hts, hne, g⟩⟩
theorem nand_bit_sub (s i : Nat) : sub (nand s (bit i)) s := fun k hk => by rw [nand_testBit] at hk; simp at hk; exact hk.1
theorem nand_bit_bit (s i : Nat) : (nand s (bit i)).testBit i = false := by rw [nand_testBit, testBit_bit]; simp
/-- a set without one of its elements holds each set within it that lacks the element -/
theorem sub_nand {t s i : Nat} (h : sub t s) (hi : t.testBit i = false) : sub t (nand s (bit i)) := fun k hk => by
  rw [nand_testBit, h k hk, testBit_bit]
  have : i ≠ k := by rintro rfl; rw [hi] at hk; cases hk
  simp [this]
theorem circ_rk {L : List Nat} (hne : L ≠ []) {s : Nat} (hs : s < 256) : Circ L s ↔ (rk L s + 1 = sz s ∧ ∀ i, i < 8 → s.testBit i = true → rk L (nand s (bit i)) = sz (nand s (bit i))) := by
  constructor
  · rintro ⟨h1, h2⟩
    have hsub : ∀ i, i < 8 → s.testBit i = true → rk L (nand s (bit i)) = sz (nand s (bit i)) := fun i hi hb => by
      have hlt : nand s (bit i) < 256 := nand_lt _ _ 8 hs
      refine (ind_rk hne hlt).1 (h2 _ hlt (nand_bit_sub s i) (fun e => ?_))
      have := nand_bit_bit s i
      rw [e, hb] at this; cases this
    refine ⟨?_, hsub⟩
    have h0 : s ≠ 0 := by
      rintro rfl
      refine h1 ((ind_rk hne (by decide)).2 ?_)
      have := rk_le L 0
      rw [sz_zero] at this ⊢
      omega
    obtain ⟨i, hi, hb⟩ := exists_bit hs h0
    have h3 := hsub i hi hb
    have h4 := rk_mono hne (nand_bit_sub s i)
    have h5 := sz_less hi hb
    have h6 := rk_le L s
    have h7 : rk L s ≠ sz s := fun e => h1 ((ind_rk hne hs).2 e)
    omega
  · rintro ⟨h1, h2⟩
    refine ⟨fun h => ?_, fun t ht hts hne2 => ?_⟩
    · have := (ind_rk hne hs).1 h; omega
    · obtain ⟨i, hi, hd⟩ : ∃ i, i < 8 ∧ t.testBit i ≠ s.testBit i := Classical.byContradiction fun g => hne2 (eq_of_bits ht hs (fun i hi => Classical.byContradiction fun c => g ⟨i, hi, c⟩))
      have hti : t.testBit i = false ∧ s.testBit i = true := by
        cases c : t.testBit i
        · rw [c] at hd; exact ⟨rfl, by simpa using hd.symm⟩
        · rw [c, hts i c] at hd; exact absurd rfl hd
      exact Ind.down ((ind_rk hne (nand_lt _ _ 8 hs)).2 (h2 i hi hti.2)) (sub_nand hts hti.1)

/-- an independent set grows within the two till it is as great as another one -/
theorem extend_to {L : List Nat} {r : Nat} (hF : Fam8 L r) (hE : Exch L) {J : Nat} (hJ8 : J < 256) (hJ : Ind L J) : ∀ d I, I < 256 → Ind L I → sz J - sz I = d → ∃ K, K < 256 ∧ Ind L K ∧ sub I K ∧ sub K (I ||| J) ∧ sz J ≤ sz K := by
  intro d
  induction d with
  | zero => intro I hI8 hI hd; exact ⟨I, hI8, hI, fun _ h => h, sub_or_left I J, by omega⟩
  | succ d ih =>
    intro I hI8 hI hd
    obtain ⟨B1, hB1, hs1⟩ := hI
    obtain ⟨B2, hB2, hs2⟩ := hJ
    obtain ⟨y, hy, h1, h2, h3⟩ := augment hF hE (show sz I < sz J by omega) _ B1 B2 hB1 hB2 hs1 hs2 rfl
    have hsz := sz_add hy h2
    obtain ⟨K, k1, k2, k3, k4, k5⟩ := ih (I ||| bit y) (or_lt _ _ hI8 (bit_lt256 y hy)) h3 (by omega)
    refine ⟨K, k1, k2, sub_trans (sub_or_left I (bit y)) k3, fun i hi => ?_, k5⟩
    have := k4 i hi
    rw [Nat.testBit_or, or_bit_testBit] at this
    rw [Nat.testBit_or]
    simp only [Bool.or_eq_true, decide_eq_true_eq] at this ⊢
    rcases this with (h | h) | h
    · exact .inl h
    · subst h; exact .inr h1
    · exact .inr h
/-- an element adds nothing to a set just if it makes a circuit with it -/
theorem flat_circ {L : List Nat} {r : Nat} (hne : L ≠ []) (hF : Fam8 L r) (hE : Exch L) {s i : Nat} (hs : s < 256) (hi : i < 8) (hsi : s.testBit i = false) : rk L (s ||| bit i) = rk L s ↔ ∃ c, c < 256 ∧ Circ L c ∧ sub c (s ||| bit i) ∧ c.testBit i = true := by
  have hsi8 := or_lt s (bit i) hs (bit_lt256 i hi)
  constructor
  · intro h
    obtain ⟨b, hb, e⟩ := rk_at hne s
    have hI8 : s &&& b < 256 := and_lt256 hs
    have hInd : Ind L (s &&& b) := ⟨b, hb, sub_and_right s b⟩
    have hIi : (s &&& b).testBit i = false := by rw [Nat.testBit_and, hsi]; rfl
    have hdep : ¬ Ind L ((s &&& b) ||| bit i) := fun g => by
      have h1 := sz_add hi hIi
      have h2 : sub ((s &&& b) ||| bit i) (s ||| bit i) := fun k hk => by
        rw [or_bit_testBit] at hk ⊢
        simp only [Bool.or_eq_true] at hk ⊢
        rcases hk with hk | hk
        · exact .inl (sub_and_left s b k hk)
        · exact .inr hk
      have h3 := rk_ind g h2
      omega
    obtain ⟨c, c1, c2, c3⟩ := dep_circ _ _ (or_lt _ _ hI8 (bit_lt256 i hi)) rfl hdep
    refine ⟨c, c1, c3, fun k hk => ?_, ?_⟩
    · have := c2 k hk
      rw [or_bit_testBit] at this ⊢
      simp only [Bool.or_eq_true] at this ⊢
      rcases this with h | h
      · exact .inl (sub_and_left s b k h)
      · exact .inr h
    · cases g : c.testBit i
      · refine absurd (Ind.down hInd (fun k hk => ?_)) c3.1
        have := c2 k hk
        rw [or_bit_testBit] at this
        simp only [Bool.or_eq_true, decide_eq_true_eq] at this
        rcases this with h | h
        · exact h
        · subst h; rw [g] at hk; cases hk
      · rfl
  · rintro ⟨c, c1, c2, c3, c4⟩
    have hmono := rk_mono hne (sub_or_left s (bit i))
    obtain ⟨b, hb, e⟩ := rk_at hne (s ||| bit i)
    have hJ8 : (s ||| bit i) &&& b < 256 := and_lt256 hsi8
    have hJ : Ind L ((s ||| bit i) &&& b) := ⟨b, hb, sub_and_right _ b⟩
    have hc8 : nand c (bit i) < 256 := nand_lt _ _ 8 c1
    have hI : Ind L (nand c (bit i)) := c2.2 _ hc8 (nand_bit_sub c i) (fun e => by
      have := nand_bit_bit c i
      rw [e, c4] at this; cases this)
    obtain ⟨K, k1, k2, k3, k4, k5⟩ := extend_to hF hE hJ8 hJ _ (nand c (bit i)) hc8 hI rfl
    have hKi : K.testBit i = false := by
      cases g : K.testBit i
      · rfl
      · refine absurd (Ind.down k2 (fun k hk => ?_)) c2.1
        by_cases e : i = k
        · subst e; exact g
        · exact k3 k (by rw [nand_testBit, hk, testBit_bit]; simp [e])
    have hKs : sub K s := fun k hk => by
      have h1 := k4 k hk
      rw [Nat.testBit_or, Nat.testBit_and] at h1
      simp only [Bool.or_eq_true, Bool.and_eq_true] at h1
      have h2 : (s ||| bit i).testBit k = true := by
        rcases h1 with h | h
        · exact c3 k (nand_bit_sub c i k h)
        · exact h.1
      rw [or_bit_testBit] at h2
      simp only [Bool.or_eq_true, decide_eq_true_eq] at h2
      rcases h2 with h | h
      · exact h
      · subst h; rw [hKi] at hk; cases hk
    have := rk_ind k2 hKs
    omega

/-- flats, by ranks -/
def Flat (m : Nat) (L : List Nat) (s : Nat) : Prop := ∀ i, i < m → s.testBit i = false → rk L (s ||| bit i) ≠ rk L s
theorem lt_bit_of_sub {m s t : Nat} (hm : m ≤ 8) (hs : s < bit m) (h : sub t s) : t < bit m := by
  have hb := bit_le m hm
  have ht := sub_lt256 (show s < 256 by omega) h
  exact (lt_pow_iff m t hm ht).2 (fun i hi hti => (lt_pow_iff m s hm (by omega)).1 hs i hi (h i hti))
theorem flat_iff {L : List Nat} {r m : Nat} (hm : m ≤ 8) (hne : L ≠ []) (hF : Fam8 L r) (hE : Exch L) {s : Nat} (hs : s < bit m) : Flat m L s ↔ ∀ c, c < bit m → Circ L c → sz (nand c s) ≠ 1 := by
  have hb := bit_le m hm
  have hs8 : s < 256 := by omega
  constructor
  · intro h c hc hcc h1
    have hc8 : c < 256 := by omega
    have hn8 : nand c s < 256 := nand_lt _ _ 8 hc8
    have h0 : nand c s ≠ 0 := by intro e; rw [e, sz_zero] at h1; omega
    obtain ⟨i, hi, hbi⟩ := exists_bit hn8 h0
    have hone : nand c s = bit i := (eq_of_sub_sz (bit_lt256 i hi) hn8 (fun k hk => by
      rw [testBit_bit, decide_eq_true_eq] at hk
      subst hk; exact hbi) (by rw [sz_bit hi]; omega)).symm
    rw [nand_testBit] at hbi
    simp only [Bool.and_eq_true, Bool.not_eq_true'] at hbi
    have him : i < m := (lt_pow_iff m c hm hc8).1 hc i hi hbi.1
    refine h i him hbi.2 ((flat_circ hne hF hE hs8 hi hbi.2).2 ⟨c, hc8, hcc, fun k hk => ?_, hbi.1⟩)
    rw [or_bit_testBit]
    cases g : s.testBit k
    · have : (nand c s).testBit k = true := by rw [nand_testBit, hk, g]; rfl
      rw [hone, testBit_bit] at this
      simp [this]
    · rfl
  · intro h i hi hsi hr
    obtain ⟨c, c1, c2, c3, c4⟩ := (flat_circ hne hF hE hs8 (by omega) hsi).1 hr
    refine h c (lt_bit_of_sub hm (or_lt_bit hs (bit_lt_bit hi)) c3) c2 ?_
    have : nand c s = bit i := eq_of_bits (nand_lt _ _ 8 c1) (bit_lt256 i (by omega)) (fun k hk => by
      rw [nand_testBit, testBit_bit]
      by_cases e : i = k
      · subst e; simp [c4, hsi]
      · cases g : c.testBit k
        · simp [e]
        · have := c3 k g
          rw [or_bit_testBit] at this
          simp [e] at this
          simp [e, this])
    rw [this, sz_bit (by omega)]

/-- no basis lies within -/
def NoSpan (L : List Nat) (s : Nat) : Prop := ∀ b, b ∈ L → ¬ sub b s
theorem noSpan_iff {L : List Nat} {r : Nat} (hne : L ≠ []) (hF : Fam8 L r) (s : Nat) (hs : s < 256) : NoSpan L s ↔ rk L s < r := by
  constructor
  · intro h
    obtain ⟨b, hb, e⟩ := rk_at hne s
    have h1 : sz (s &&& b) ≤ sz b := sz_mono (sub_and_right s b)
    rw [hF.eq b hb] at h1
    rcases Nat.lt_or_eq_of_le h1 with g | g
    · omega
    · exfalso
      refine h b hb ?_
      have : s &&& b = b := eq_of_sub_sz (and_lt256 hs) (hF.lt b hb) (sub_and_right s b) (by rw [hF.eq b hb]; omega)
      intro i hi
      rw [← this, Nat.testBit_and] at hi
      simp at hi; exact hi.1
  · intro h b hb hsub
    have := rk_ind ⟨b, hb, fun _ h => h⟩ hsub
    rw [hF.eq b hb] at this
    omega
theorem rk_all {L : List Nat} {r m : Nat} (hne : L ≠ []) (hF : Fam8 L r) (hlt : ∀ b, b ∈ L → b < bit m) : rk L (bit m - 1) = r := by
  obtain ⟨b, hb⟩ := List.exists_mem_of_ne_nil L hne
  have h1 : sub b (bit m - 1) := fun i hi => by
    rw [testBit_all, decide_eq_true_eq]
    exact lt_m_of_testBit (hlt b hb) hi
  have h2 := rk_ind ⟨b, hb, fun _ h => h⟩ h1
  rw [hF.eq b hb] at h2
  obtain ⟨b', hb', e⟩ := rk_at hne (bit m - 1)
  have h3 : sz ((bit m - 1) &&& b') ≤ sz b' := sz_mono (sub_and_right _ b')
  rw [hF.eq b' hb'] at h3
  omega
/-- hyperplanes, by ranks -/
theorem hyper_iff {L : List Nat} {r m : Nat} (hm : m ≤ 8) (hne : L ≠ []) (hF : Fam8 L r) (hlt : ∀ b, b ∈ L → b < bit m) {s : Nat} (hs : s < bit m) : (rk L s + 1 = rk L (bit m - 1) ∧ Flat m L s) ↔ (NoSpan L s ∧ ∀ t, t < bit m → NoSpan L t → sub s t → t = s) := by
  have hb := bit_le m hm
  have hs8 : s < 256 := by omega
  rw [rk_all hne hF hlt]
  constructor
  · rintro ⟨h1, h2⟩
    refine ⟨(noSpan_iff hne hF s hs8).2 (by omega), fun t ht hn hst => ?_⟩
    have ht8 : t < 256 := by omega
    apply Classical.byContradiction
    intro hne2
    obtain ⟨i, hi, hd⟩ : ∃ i, i < 8 ∧ s.testBit i ≠ t.testBit i := Classical.byContradiction fun g => hne2 (eq_of_bits ht8 hs8 (fun i hi => Classical.byContradiction fun c => g ⟨i, hi, fun e => c e.symm⟩))
    have hti : s.testBit i = false ∧ t.testBit i = true := by
      cases c : s.testBit i
      · rw [c] at hd; exact ⟨rfl, by simpa using hd.symm⟩
      · rw [c, hst i c] at hd; exact absurd rfl hd
    have him : i < m := (lt_pow_iff m t hm ht8).1 ht i hi hti.2
    have h3 := h2 i him hti.1
    have h4 := rk_mono hne (sub_or_left s (bit i))
    have h5 : sub (s ||| bit i) t := fun k hk => by
      rw [or_bit_testBit] at hk
      simp only [Bool.or_eq_true, decide_eq_true_eq] at hk
      rcases hk with hk | hk
      · exact hst k hk
      · subst hk; exact hti.2
    have h6 := rk_mono hne h5
    have h7 := (noSpan_iff hne hF t ht8).1 hn
    omega
  · rintro ⟨h1, h2⟩
    have hr := (noSpan_iff hne hF s hs8).1 h1
    have hfl : Flat m L s := fun i hi hsi e => by
      have h8 := or_lt_bit hs (bit_lt_bit hi)
      have hn : NoSpan L (s ||| bit i) := (noSpan_iff hne hF _ (by omega)).2 (by omega)
      have := h2 _ h8 hn (sub_or_left s (bit i))
      have h9 := congrArg (fun x => x.testBit i) this
      simp only [or_bit_testBit, hsi] at h9
      simp at h9
    refine ⟨?_, hfl⟩
    -- some element is not in s
    have hex : ∃ i, i < m ∧ s.testBit i = false := by
      apply Classical.byContradiction
      intro g
      have hall : s = bit m - 1 := eq_of_bits hs8 (by omega) (fun i hi => by
        rw [testBit_all]
        by_cases c : i < m
        · cases d : s.testBit i
          · exact absurd ⟨i, c, d⟩ g
          · simp [c]
        · cases d : s.testBit i
          · simp [c]
          · exact absurd ((lt_pow_iff m s hm hs8).1 hs i hi d) c)
      have := rk_all hne hF hlt
      rw [← hall] at this
      omega
    obtain ⟨i, hi, hsi⟩ := hex
    have h3 := rk_step hne s i (by omega)
    have h4 : ¬ rk L (s ||| bit i) < r := fun g => by
      have h8 := or_lt_bit hs (bit_lt_bit hi)
      have := h2 _ h8 ((noSpan_iff hne hF _ (by omega)).2 g) (sub_or_left s (bit i))
      have h9 := congrArg (fun x => x.testBit i) this
      simp only [or_bit_testBit, hsi] at h9
      simp at h9
    omega

end Go.Proofs.Ytenbeiafdiifgaa

namespace Go.Proofs.Ytenbeiafdiifgaa
open Go.RowKit
set_option linter.unusedVariables false

def subAt (r : Nat → Nat) (s i k : Nat) : Prop := r ((s ||| bit i) ||| (s ||| bit k)) + r ((s ||| bit i) &&& (s ||| bit k)) ≤ r (s ||| bit i) + r (s ||| bit k)
theorem rk_le8 (L : List Nat) (s : Nat) : rk L s ≤ 8 := rkTo_le8 L s L.length

set_option maxRecDepth 100000 in
set_option maxHeartbeats 8000000 in
theorem c_refMatroid {B : Nat} {W : World} (u : Later B W) (n : Int) (l : List Int) (a : Option Addr) (cap : Nat) (e : Int) (h : IntsAt B W a l) (hlen : l.length ≤ 4611686018427387904) (he : MatIs n l e) :
    Calls Try.prog 4 #[.agg #[.int .i64 n, .slice a l.length cap]] u.val (Ret B W (.int .i64 e)) := by
  have T0 : Hid (Two (u.val.alloc (.cells #[.int .i64 n, .slice a l.length cap] 24)) u.val.heap.size 24 (.int .i64 n) (.slice a l.length cap)) := Lib.hid (Two.new _ _ _ _)
  have HI : Hid (IntsAt (u.val.alloc (.cells #[.int .i64 n, .slice a l.length cap] 24)).heap.size (u.val.alloc (.cells #[.int .i64 n, .slice a l.length cap] 24)) a l) := Lib.hid (h.to (u.alloc _))
  have hrr : u.val.heap.size < (u.val.alloc (.cells #[.int .i64 n, .slice a l.length cap] 24)).heap.size := by simp
  have HV : Hid (∀ v : Later (u.val.alloc (.cells #[.int .i64 n, .slice a l.length cap] 24)).heap.size (u.val.alloc (.cells #[.int .i64 n, .slice a l.length cap] 24)), ∃ w : Later B W, w.val = v.val) := Lib.hid (fun v => ⟨(u.alloc _).up v, rfl⟩)
  have q0 : ∀ w : Later (u.val.alloc (.cells #[.int .i64 n, .slice a l.length cap] 24)).heap.size (u.val.alloc (.cells #[.int .i64 n, .slice a l.length cap] 24)), w.val.cell? ⟨u.val.heap.size, 0, none⟩ = some (.int .i64 n) := fun w => (T0.out.keep w.below).c0
  have q1 : ∀ w : Later (u.val.alloc (.cells #[.int .i64 n, .slice a l.length cap] 24)).heap.size (u.val.alloc (.cells #[.int .i64 n, .slice a l.length cap] 24)), w.val.cell? ⟨u.val.heap.size, 1, none⟩ = some (.slice a l.length cap) := fun w => (T0.out.keep w.below).c1
  have KF : Hid (∀ x : Bool, x = decide (isFam n l) → Calls Try.prog 18 #[.int .i64 n, .slice a l.length cap] (u.val.alloc (.cells #[.int .i64 n, .slice a l.length cap] 24)) (Ret (u.val.alloc (.cells #[.int .i64 n, .slice a l.length cap] 24)).heap.size (u.val.alloc (.cells #[.int .i64 n, .slice a l.length cap] 24)) (.bool x))) := Lib.hid (fun x hx => by subst hx; exact c_isFamily (Later.self _) n l a cap (h.to (u.alloc _)) (by omega))
  clear h T0
  by_cases hf : isFam n l
  case neg =>
    have K1 := Lib.hid (KF.out false (by simp [hf]))
    have h1 := he.1 (fun h => hf h.1)
    subst h1
    clear hf he KF
    go_enter Try.func4, Try.ntmps4
    go_wp2_with (first | (go_at_call 18; refine (K1.out).mono ?_; rintro e _ ⟨rfl, v1, rfl⟩))
    go_ret
    exact Ret.of (HV.out v1) rfl
  have K1 := Lib.hid (KF.out true (by simp [hf])); clear KF
  by_cases h0 : 0 < l.length
  case neg =>
    have hl0 : l = [] := List.length_eq_zero_iff.1 (by omega)
    have h1 := he.1 (fun h => h.2.1 hl0)
    subst h1 hl0
    clear hf he h0
    go_enter Try.func4, Try.ntmps4
    go_wp2_with (first | (go_at_call 18; refine (K1.out).mono ?_; rintro e _ ⟨rfl, v1, rfl⟩))
    go_ret
    exact Ret.of (HV.out v1) rfl
  have z1 : ((l.length : Int) == 0) = false := by rw [beq_eq_false_iff_ne]; omega
  obtain ⟨m, rfl⟩ := Int.eq_ofNat_of_zero_le hf.1
  have hm : m ≤ 8 := by have := hf.2.1; omega
  have hbm := bit_le m hm
  have HOk : Hid (okM (m : Int) l ↔ ∀ i, i < l.length → sz (l.getD i 0).toNat = sz (l.getD 0 0).toNat) := Lib.hid (by
    unfold okM
    constructor
    · intro h i hi
      have := h.2.2 i (by rw [toN_len]; exact hi)
      rwa [toN_getD, toN_getD] at this
    · intro h
      refine ⟨hf, (by rintro rfl; simp at h0), fun i hi => ?_⟩
      rw [toN_len] at hi
      rw [toN_getD, toN_getD]
      exact h i hi)
  have HF := Lib.hid hf; have HE := Lib.hid he
  clear hf he
  have HN : Hid (∀ i, i < l.length → ∃ s : Nat, l.getD i 0 = s ∧ s < 256) := Lib.hid (fun i hi => by
    have h1 := HF.out.2.2 i hi
    have h2 := all_le (m : Int) HF.out.2.1
    exact ⟨(l.getD i 0).toNat, by omega, by omega⟩)
  have KR := Lib.hid (fun v : Later (u.val.alloc (.cells #[.int .i64 m, .slice a l.length cap] 24)).heap.size (u.val.alloc (.cells #[.int .i64 m, .slice a l.length cap] 24)) => c_refRanks v m hm l a cap HI.out hlen HF.out)
  obtain ⟨x0, hx0, hx08⟩ := HN.out 0 h0
  obtain ⟨b, off, rfl, hbB, hcell⟩ := HI.out.at (k := 0) h0
  have HC := Lib.hid hcell
  have c00 := fun v => hcell v 0 h0
  rw [hx0] at c00
  simp only [Nat.add_zero] at c00
  have HX0 := Lib.hid hx0
  clear hcell hx0
  go_enter Try.func4, Try.ntmps4
  go_wp2_with (first | (go_at_call 18; refine (K1.out).mono ?_; rintro e _ ⟨rfl, v1, rfl⟩))
  clear K1 z1
  generalize hr2 : u.val.heap.size = g at *
  generalize u.val.alloc (.cells #[.int .i64 m, .slice (some ⟨b, off, none⟩) l.length cap] 24) = W1 at *
  clear hr2 u
  have HS0 := Lib.hid (fun v : Later W1.heap.size W1 => c_size v x0 hx08)
  go_loopw [3] (fun i wr => ∃ (k : Nat) (v : Later W1.heap.size W1), k ≤ l.length ∧ i = .int .i64 k ∧ wr = v.val ∧ Hid (∀ i, i < k → sz (l.getD i 0).toNat = sz (l.getD 0 0).toNat)) (fun i _ => l.length - (intOf i).toNat)
  case atStart => exact ⟨0, v1, by omega, rfl, rfl, Lib.hid (fun i hi => by omega)⟩
  case round =>
    clear v1
    obtain ⟨k, v1, hk, rfl, rfl, hfk⟩ := hrel
    by_cases hlt : k < l.length
    · obtain ⟨x, hx, hx8⟩ := HN.out k hlt
      have c0 : ∀ v : Later W1.heap.size W1, v.val.cell? ⟨b, off + k, none⟩ = some (.int .i64 (x : Int)) := fun v => by rw [← hx]; exact HC.out v k hlt
      have HS1 := Lib.hid (fun v : Later W1.heap.size W1 => c_size v x hx8)
      have HX := Lib.hid hx
      clear hx
      have hsx := sz_le x
      have hs0 := sz_le x0
      by_cases hq : sz x = sz x0
      · have HQ := Lib.hid hq
        have hn : Hid (∀ i, i < k + 1 → sz (l.getD i 0).toNat = sz (l.getD 0 0).toNat) := Lib.hid (fun i hi => by
          by_cases c : i = k
          · subst c; rw [HX.out, HX0.out]; exact HQ.out
          · exact hfk.out i (by omega))
        rw [hq] at HS1
        clear hq
        go_wp2
        refine wp_region_later v1 (by kernel_rfl) (by kernel_rfl) (fun _ => ?_)
        repeat (first | go_big_quiet_step ((first | (go_at_call 8; exact HS1.out _) | (go_at_call 8; exact HS0.out _))) | (refine wpQuiet_step (fun K hK => ?_); go_simp; refine ⟨_, fun _ => rfl, ?_⟩; refine hK _ ?_; clear hK K))
        refine wpQuiet_nil ?_
        intro v1
        go_wp2
        go_roundw
        case rel => exact ⟨k+1, v1, by omega, by go_num, rfl, hn⟩
        case measure => simp [intOf]; omega
      · have he1 : e = 1 := HE.out.1 (fun h => hq (by have := HOk.out.1 h k hlt; rw [HX.out, HX0.out] at this; exact this))
        subst he1
        have d1 : (((sz x : Nat) : Int) != ((sz x0 : Nat) : Int)) = true := by rw [bne_iff_ne]; omega
        have d2 : ((sz x) != (sz x0)) = true := by rw [bne_iff_ne]; omega
        clear hq
        generalize sz x = p at *
        generalize sz x0 = p0 at *
        go_wp2
        refine wp_region_later v1 (by kernel_rfl) (by kernel_rfl) (fun _ => ?_)
        repeat (first | go_big_quiet_step ((first | (go_at_call 8; exact HS1.out _) | (go_at_call 8; exact HS0.out _))) | (refine wpQuiet_step (fun K hK => ?_); go_simp; refine ⟨_, fun _ => rfl, ?_⟩; refine hK _ ?_; clear hK K))
        refine wpQuiet_nil ?_
        intro v1
        go_wp2
        go_ret
        exact Ret.of (HV.out v1) rfl
    · have hok : Hid (okM (m : Int) l) := Lib.hid (HOk.out.2 (fun i hi => hfk.out i (by omega)))
      have HEx : Hid (Exch (toN l) ↔ ∀ s, s < bit m → ∀ i, i < m → ∀ k, k < m → subAt (rk (toN l)) s i k) := Lib.hid (by
        have hne : toN l ≠ [] := fun h => hok.out.2.1 (by have := congrArg List.length h; rw [toN_len] at this; exact List.length_eq_zero_iff.1 this)
        exact exch_iff hm hne hok.out.fam8 (by have := fam_lt HF.out; simpa using this))
      have H3 : Hid (¬ (∀ s, s < bit m → ∀ i, i < m → ∀ k, k < m → subAt (rk (toN l)) s i k) → e = 3) := Lib.hid (fun h => HE.out.2.1 hok.out (fun hx => h (HEx.out.1 hx)))
      have H0 : Hid ((∀ s, s < bit m → ∀ i, i < m → ∀ k, k < m → subAt (rk (toN l)) s i k) → e = 0) := Lib.hid (fun h => HE.out.2.2 hok.out (HEx.out.2 h))
      have HR8 := Lib.hid (rk_le8 (toN l))
      clear hfk HEx hok HOk HE HF HN HX0 HS0 c00 HC
      generalize rk (toN l) = r at *
      go_upto_region 9 with (first | (go_at_call 6; refine (KR.out _).mono ?_; rintro e _ ⟨_, rfl, ⟨gt, cpt, rfl, hTab⟩, v2, rfl⟩))
      have HT := Lib.hid hTab
      clear hTab KR
      have hq0 : ∀ w : Later v2.val.heap.size v2.val, w.val.cell? ⟨g, 0, none⟩ = some (.int .i64 m) := fun w => q0 (v2.up w)
      have HV2 : Hid (∀ v : Later v2.val.heap.size v2.val, ∃ w : Later B W, w.val = v.val) := Lib.hid (fun v => HV.out (v2.up v))
      have HTa : Hid (∀ w : Later v2.val.heap.size v2.val, ITab w.val gt (bit m) (fun j => (r j : Int))) := Lib.hid (fun w => HT.out.keep w.below)
      clear q0 q1 HV HT HI hlt hk
      generalize v2.val = W2 at *
      clear v2 v1
      have hbc := bit_cast m
      have KA := Lib.hid (fun w : Later W2.heap.size W2 => c_all w (m : Int) (by omega) (by omega))
      have hla : Hid (all (m : Int) = (bit m : Int) - 1) := Lib.hid (by rw [all_nat]; omega)
      rw [hla.out] at KA
      clear hla
      obtain ⟨y, hy⟩ : ∃ y : Later W2.heap.size W2, y.val = W2 := ⟨Later.self _, rfl⟩
      rw [← hy]
      clear hy
      go_wp2
      go_loopw [5] (fun i wr => ∃ (s : Nat) (v : Later W2.heap.size W2), s ≤ bit m ∧ i = .int .i64 s ∧ wr = v.val ∧ Hid (∀ s', s' < s → ∀ i, i < m → ∀ k, k < m → subAt r s' i k)) (fun i _ => bit m - (intOf i).toNat)
      case atStart => exact ⟨0, y, by omega, rfl, rfl, Lib.hid (fun s' h => by omega)⟩
      case round =>
        clear y
        obtain ⟨s, y, hs, rfl, rfl, hfs⟩ := hrel
        rcases ile (s : Int) ((bit m : Int) - 1) with ⟨hlt, e0⟩ | ⟨hlt, e0⟩
        case inr =>
          have he0 : e = 0 := H0.out (fun s' h => hfs.out s' (by omega))
          subst he0
          go_wp2_with (first | (go_at_call 7; refine (KA.out _).mono ?_; rintro e _ ⟨rfl, y2, rfl⟩))
          go_ret
          exact Ret.of (HV2.out y2) rfl
        have hsb : s < bit m := by omega
        go_wp2_with (first | (go_at_call 7; refine (KA.out _).mono ?_; rintro e _ ⟨rfl, y2, rfl⟩))
        go_loopw [6] (fun i wr => ∃ (i' : Nat) (v : Later W2.heap.size W2), i' ≤ m ∧ i = .int .i64 i' ∧ wr = v.val ∧ Hid (∀ i, i < i' → ∀ k, k < m → subAt r s i k)) (fun i _ => m - (intOf i).toNat)
        case atStart => exact ⟨0, y2, by omega, rfl, rfl, Lib.hid (fun s' h => by omega)⟩
        case round =>
          clear y y2
          obtain ⟨i, y, hi, rfl, rfl, hfi⟩ := hrel
          by_cases hlt2 : i < m
          · go_wp2
            go_loopw [7] (fun j wr => ∃ (k : Nat) (v : Later W2.heap.size W2), k ≤ m ∧ j = .int .i64 k ∧ wr = v.val ∧ Hid (∀ k', k' < k → subAt r s i k')) (fun j _ => m - (intOf j).toNat)
            case atStart => exact ⟨0, y, by omega, rfl, rfl, Lib.hid (fun s' h => by omega)⟩
            case round =>
              clear y
              obtain ⟨k2, y, hk2, rfl, rfl, hfk⟩ := hrel
              by_cases hlt3 : k2 < m
              · have b1 := bit_lt i (by omega)
                have b2 := bit_lt k2 (by omega)
                have bc1 := bit_cast i
                have bc2 := bit_cast k2
                have w1 := IntWalk.i64_in (bit i : Int) (by omega)
                have w2 := IntWalk.i64_in (bit k2 : Int) (by omega)
                have o1 := i64_or s (bit i) (by omega) (by omega)
                have o2 := i64_or s (bit k2) (by omega) (by omega)
                have l1 : s ||| bit i < bit m := or_lt_bit hsb (bit_lt_bit hlt2)
                have l2 : s ||| bit k2 < bit m := or_lt_bit hsb (bit_lt_bit hlt3)
                have HSA : Hid (subAt r s i k2 ↔ r ((s ||| bit i) ||| (s ||| bit k2)) + r ((s ||| bit i) &&& (s ||| bit k2)) ≤ r (s ||| bit i) + r (s ||| bit k2)) := Lib.hid Iff.rfl
                generalize s ||| bit i = p at *
                generalize s ||| bit k2 = q at *
                have o3 := i64_or p q (by omega) (by omega)
                have o4 := i64_and p q (by omega) (by omega)
                have l3 : p ||| q < bit m := or_lt_bit l1 l2
                have l4 : p &&& q < bit m := and_lt_bit _ l1
                have t1 : ∀ w : Later W2.heap.size W2, w.val.cell? ⟨gt, p, none⟩ = some (.int .i64 (r p : Int)) := fun w => (HTa.out w).cell l1
                have t2 : ∀ w : Later W2.heap.size W2, w.val.cell? ⟨gt, q, none⟩ = some (.int .i64 (r q : Int)) := fun w => (HTa.out w).cell l2
                have t3 : ∀ w : Later W2.heap.size W2, w.val.cell? ⟨gt, p ||| q, none⟩ = some (.int .i64 (r (p ||| q) : Int)) := fun w => (HTa.out w).cell l3
                have t4 : ∀ w : Later W2.heap.size W2, w.val.cell? ⟨gt, p &&& q, none⟩ = some (.int .i64 (r (p &&& q) : Int)) := fun w => (HTa.out w).cell l4
                have r1 := HR8.out p
                have r2 := HR8.out q
                have r3 := HR8.out (p ||| q)
                have r4 := HR8.out (p &&& q)
                generalize r p = rp at *
                generalize r q = rq at *
                generalize r (p ||| q) = ro at *
                generalize r (p &&& q) = ra at *
                generalize p ||| q = po at *
                generalize p &&& q = pa at *
                have w3 := IntWalk.i64_in ((rp : Int) + (rq : Int)) (by omega)
                have w4 := IntWalk.i64_in ((ro : Int) + (ra : Int)) (by omega)
                rcases ilt ((rp : Int) + (rq : Int)) ((ro : Int) + (ra : Int)) with ⟨g1, d1⟩ | ⟨g1, d1⟩
                · have he3 : e = 3 := H3.out (fun h => by have := HSA.out.1 (h s hsb i hlt2 k2 hlt3); omega)
                  subst he3
                  clear HSA
                  go_wp2
                  refine wp_region_later y (by kernel_rfl) (by kernel_rfl) (fun _ => ?_)
                  repeat (first | go_big_quiet_step ((fail)) | (refine wpQuiet_step (fun K hK => ?_); go_simp; refine ⟨_, fun _ => rfl, ?_⟩; refine hK _ ?_; clear hK K))
                  refine wpQuiet_nil ?_
                  intro y
                  go_wp2
                  refine wp_region_later y (by kernel_rfl) (by kernel_rfl) (fun _ => ?_)
                  repeat (first | go_big_quiet_step ((fail)) | (refine wpQuiet_step (fun K hK => ?_); go_simp; refine ⟨_, fun _ => rfl, ?_⟩; refine hK _ ?_; clear hK K))
                  refine wpQuiet_nil ?_
                  intro y
                  go_wp2
                  go_ret
                  exact Ret.of (HV2.out y) rfl
                · have hn : Hid (∀ k', k' < k2 + 1 → subAt r s i k') := Lib.hid (fun k' hk' => by
                    by_cases c : k' = k2
                    · subst c; exact HSA.out.2 (by omega)
                    · exact hfk.out k' (by omega))
                  clear HSA
                  go_wp2
                  refine wp_region_later y (by kernel_rfl) (by kernel_rfl) (fun _ => ?_)
                  repeat (first | go_big_quiet_step ((fail)) | (refine wpQuiet_step (fun K hK => ?_); go_simp; refine ⟨_, fun _ => rfl, ?_⟩; refine hK _ ?_; clear hK K))
                  refine wpQuiet_nil ?_
                  intro y
                  go_wp2
                  refine wp_region_later y (by kernel_rfl) (by kernel_rfl) (fun _ => ?_)
                  repeat (first | go_big_quiet_step ((fail)) | (refine wpQuiet_step (fun K hK => ?_); go_simp; refine ⟨_, fun _ => rfl, ?_⟩; refine hK _ ?_; clear hK K))
                  refine wpQuiet_nil ?_
                  intro y
                  go_wp2
                  go_roundw
                  case rel => exact ⟨k2+1, y, by omega, by go_num, rfl, hn⟩
                  case measure => simp [intOf]; omega
              · have hn : Hid (∀ i', i' < i + 1 → ∀ k, k < m → subAt r s i' k) := Lib.hid (fun i' hi' k' hk' => by
                  by_cases c : i' = i
                  · subst c; exact hfk.out k' (by omega)
                  · exact hfi.out i' (by omega) k' hk')
                go_wp2
                go_roundw
                case rel => exact ⟨i+1, y, by omega, by go_num, rfl, hn⟩
                case measure => simp [intOf]; omega
          · have hn : Hid (∀ s', s' < s + 1 → ∀ i, i < m → ∀ k, k < m → subAt r s' i k) := Lib.hid (fun s' hs' i' hi' k' hk' => by
              by_cases c : s' = s
              · subst c; exact hfi.out i' (by omega) k' hk'
              · exact hfs.out s' (by omega) i' hi' k' hk')
            go_wp2
            go_roundw
            case rel => exact ⟨s+1, y, by omega, by go_num, rfl, hn⟩
            case measure => simp [intOf]; omega

end Go.Proofs.Ytenbeiafdiifgaa
