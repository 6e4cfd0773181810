
/-
  Rising lists, plainly: a rising list is told by its members; a sorted list without its doubles is the list of all sets that are in it.
  Components: rank and circuits; the two lists are one.
-/
import Derived.Test.YtefkhnibempibaaPk03
import Derived.Lib.SlicesCompact
import Derived.Test.YtefkhnibempibaaPk19
import Derived.Test.YtefkhnibempibaaPk13
namespace Go.Proofs.Ytefkhnibempibaa
set_option linter.unusedVariables false

theorem pw_ext : ∀ {l1 l2 : List Int}, l1.Pairwise (· < ·) → l2.Pairwise (· < ·) → (∀ x, x ∈ l1 ↔ x ∈ l2) → l1 = l2
  | [], [], _, _, _ => rfl
  | [], b :: s, _, _, h => by have := (h b).2 List.mem_cons_self; cases this
  | a :: t, [], _, _, h => by have := (h a).1 List.mem_cons_self; cases this
  | a :: t, b :: s, h1, h2, h => by
    rw [List.pairwise_cons] at h1 h2
    have hab : a = b := by
      rcases List.mem_cons.1 ((h a).1 List.mem_cons_self) with e | e
      · exact e
      · rcases List.mem_cons.1 ((h b).2 List.mem_cons_self) with g | g
        · exact g.symm
        · have := h2.1 a e
          have := h1.1 b g
          omega
    subst hab
    have ht : t = s := pw_ext h1.2 h2.2 (fun x => by
      constructor
      · intro hx
        rcases List.mem_cons.1 ((h x).1 (List.mem_cons_of_mem _ hx)) with e | e
        · have := h1.1 x hx; omega
        · exact e
      · intro hx
        rcases List.mem_cons.1 ((h x).2 (List.mem_cons_of_mem _ hx)) with e | e
        · have := h2.1 x hx; omega
        · exact e)
    rw [ht]
theorem those_pw (m : Nat) (p : Nat → Bool) : (ints (those m p)).Pairwise (· < ·) := by
  unfold ints those
  rw [List.pairwise_map]
  refine (List.Pairwise.filter p List.pairwise_lt_range).imp ?_
  intro a b h
  omega
/-- sorted, as slices.Sort has it -/
def srt (l : List Int) : List Int := l.mergeSort fun x y => decide (x ≤ y)
theorem srt_len (l : List Int) : (srt l).length = l.length := List.length_mergeSort _
theorem srt_mem {l : List Int} {x : Int} : x ∈ srt l ↔ x ∈ l := List.mem_mergeSort
theorem srt_pw (l : List Int) : (srt l).Pairwise (· ≤ ·) := by
  have h := List.pairwise_mergeSort (le := fun x y : Int => decide (x ≤ y)) (fun a b c h1 h2 => by simp at *; omega) (fun a b => by simp; omega) l
  exact h.imp (fun h => by simpa using h)
/-- without doubles, as slices.Compact has it -/
def cpt (l : List Int) : List Int := Lib.compact l
theorem pw_get {l : List Int} (h : l.Pairwise (· ≤ ·)) {i j : Nat} (hij : i ≤ j) (hj : j < l.length) : l.getD i 0 ≤ l.getD j 0 := by
  by_cases e : i = j
  · subst e; exact Int.le_refl _
  · have := List.pairwise_iff_getElem.1 h i j (by omega) hj (by omega)
    have h1 : l.getD i 0 = l[i] := by simp [show i < l.length by omega]
    have h2 : l.getD j 0 = l[j] := by simp [hj]
    rw [h1, h2]; exact this
theorem arr_get (l : List Int) {i : Nat} (h : i < l.length) : l.toArray[i]! = l.getD i 0 := by
  simp [h]
theorem cpt_eq (l : List Int) : cpt l = ((List.range l.length).filter (fun j => decide (j = 0 ∨ l.getD j 0 ≠ l.getD (j - 1) 0))).map (fun j => l.getD j 0) := by
  unfold cpt Lib.compact Lib.compactUpTo
  have h1 : (List.range l.length).filter (Lib.keeps l.toArray) = (List.range l.length).filter (fun j => decide (j = 0 ∨ l.getD j 0 ≠ l.getD (j - 1) 0)) := List.filter_congr (fun j hj => by
    have hj' : j < l.length := by simpa using hj
    unfold Lib.keeps
    rw [arr_get l hj', arr_get l (show j - 1 < l.length by omega)])
  rw [h1]
  refine List.map_congr_left (fun j hj => ?_)
  have hj' : j < l.length := by
    have := (List.mem_filter.1 hj).1
    simpa using this
  exact arr_get l hj'
theorem cpt_pw {l : List Int} (h : l.Pairwise (· ≤ ·)) : (cpt l).Pairwise (· < ·) := by
  rw [cpt_eq, List.pairwise_map]
  have hp : ((List.range l.length).filter (fun j => decide (j = 0 ∨ l.getD j 0 ≠ l.getD (j - 1) 0))).Pairwise (· < ·) := List.Pairwise.filter _ List.pairwise_lt_range
  refine List.Pairwise.imp_of_mem (fun {a b} ha hb hab => ?_) hp
  have hb1 := List.mem_filter.1 hb
  have hbl : b < l.length := by simpa using hb1.1
  have hbk : b = 0 ∨ l.getD b 0 ≠ l.getD (b - 1) 0 := of_decide_eq_true hb1.2
  have h1 := pw_get h (show a ≤ b - 1 by omega) (by omega)
  have h2 := pw_get h (show b - 1 ≤ b by omega) hbl
  rcases hbk with e | e
  · omega
  · omega
theorem cpt_mem {l : List Int} {x : Int} : x ∈ cpt l ↔ x ∈ l := by
  rw [cpt_eq, List.mem_map]
  constructor
  · rintro ⟨j, hj, rfl⟩
    have hj' : j < l.length := by
      have := (List.mem_filter.1 hj).1
      simpa using this
    simp [hj']
  · intro hx
    -- the first place that holds x
    have key : ∀ n, n ≤ l.length → (∃ j, j < n ∧ l.getD j 0 = x) → ∃ j, j < l.length ∧ l.getD j 0 = x ∧ (j = 0 ∨ l.getD (j - 1) 0 ≠ x) := by
      intro n
      induction n with
      | zero => rintro _ ⟨j, hj, _⟩; omega
      | succ n ih =>
        rintro hn ⟨j, hj, e⟩
        by_cases c : ∃ j, j < n ∧ l.getD j 0 = x
        · exact ih (by omega) c
        · have hjn : j = n := by
            by_cases e2 : j < n
            · exact absurd ⟨j, e2, e⟩ c
            · omega
          subst hjn
          refine ⟨j, by omega, e, ?_⟩
          by_cases e3 : j = 0
          · exact .inl e3
          · exact .inr (fun h => c ⟨j - 1, by omega, h⟩)
    obtain ⟨i, hi, e⟩ := List.getElem_of_mem hx
    obtain ⟨j, h1, h2, h3⟩ := key l.length (Nat.le_refl _) ⟨i, hi, by simp [hi, e]⟩
    refine ⟨j, List.mem_filter.2 ⟨by simpa using h1, decide_eq_true ?_⟩, h2⟩
    rcases h3 with h3 | h3
    · exact .inl h3
    · exact .inr (by rw [h2]; exact fun h => h3 h.symm)
theorem mem_ints2 {l : List Nat} {x : Int} : x ∈ ints l ↔ ∃ n, n ∈ l ∧ x = (n : Int) := by
  unfold ints
  rw [List.mem_map]
  constructor
  · rintro ⟨n, h, rfl⟩; exact ⟨n, h, rfl⟩
  · rintro ⟨n, h, rfl⟩; exact ⟨n, h, rfl⟩
/-- sorted, without doubles: all sets that are in the list -/
theorem cpt_srt {m : Nat} {l : List Nat} (h : ∀ s, s ∈ l → s < bit m) : cpt (srt (ints l)) = ints (those m (fun s => decide (s ∈ l))) := by
  refine pw_ext (cpt_pw (srt_pw _)) (those_pw _ _) (fun x => ?_)
  rw [cpt_mem, srt_mem, mem_ints2, mem_ints2]
  constructor
  · rintro ⟨n, h1, e⟩; exact ⟨n, mem_those.2 ⟨h n h1, by simpa using h1⟩, e⟩
  · rintro ⟨n, h1, e⟩; exact ⟨n, by simpa using (mem_those.1 h1).2, e⟩

end Go.Proofs.Ytefkhnibempibaa

namespace Go.Proofs.Ytefkhnibempibaa
set_option linter.unusedVariables false

section
variable {m r : Nat} {L : List Nat} (hm : m ≤ 8) (hne : L ≠ []) (hF : Fam8 L r) (hE : Exch L) (hlt : ∀ b, b ∈ L → b < bit m)
include hm hne hF hE hlt
/-- what adds nothing, element by element, adds nothing at once -/
theorem rk_absorb {s X : Nat} (hs : s < bit m) (hX : X < bit m) (h : ∀ i, X.testBit i = true → rk L (s ||| bit i) = rk L s) {t : Nat} (ht : t < bit m) (hst : sub s t) : rk L (t ||| X) = rk L t := by
  have _ := hlt
  have hb := bit_le m hm
  have hsub : sub (t ||| X) (clo m L t) := fun i hi => by
    rw [Nat.testBit_or, Bool.or_eq_true] at hi
    refine (cloTo_testBit L t m i).2 ?_
    rcases hi with hi | hi
    · exact .inl hi
    · have him := lt_m_of_testBit hX hi
      exact .inr ⟨him, rk_join hm hne hF hE (by omega) (by omega) hst (h i hi)⟩
  have h1 := rk_mono hne hsub
  rw [rk_clo hm hne hF hE ht] at h1
  have h2 := rk_mono hne (sub_or_left t X)
  omega
/-- an independent set within s that has its rank: each element of s adds nothing -/
theorem max_ind {I s : Nat} (hs : s < bit m) (hIs : sub I s) (hr : rk L I = rk L s) : ∀ i, s.testBit i = true → rk L (I ||| bit i) = rk L I := fun i hi => by
  have _ := hm; have _ := hF; have _ := hE; have _ := hlt
  have h1 := rk_mono hne (sub_or_left I (bit i))
  have h2 : rk L (I ||| bit i) ≤ rk L s := rk_mono hne (fun k hk => by
    rw [or_bit_testBit, Bool.or_eq_true, decide_eq_true_eq] at hk
    rcases hk with hk | rfl
    · exact hIs k hk
    · exact hi)
  omega
/-- an independent set within s grows to one of its rank -/
theorem grow_ind {I s : Nat} (hs : s < bit m) (hI : Ind L I) (hIs : sub I s) : ∃ K, K < bit m ∧ Ind L K ∧ sub I K ∧ sub K s ∧ rk L K = rk L s := by
  have _ := hlt
  have hb := bit_le m hm
  obtain ⟨b, hb1, hb2⟩ := rk_at hne s
  have hJ : Ind L (s &&& b) := ⟨b, hb1, sub_and_right s b⟩
  have hI8 : I < 256 := sub_lt256 (by omega) hIs
  obtain ⟨K, h1, h2, h3, h4, h5⟩ := extend_to hF hE (J := s &&& b) (sub_lt256 (by omega) (sub_and_left s b)) hJ _ I hI8 hI rfl
  have hKs : sub K s := fun i hi => by
    have := h4 i hi
    rw [Nat.testBit_or, Bool.or_eq_true] at this
    rcases this with g | g
    · exact hIs i g
    · exact sub_and_left s b i g
  refine ⟨K, lt_bit_of_sub hm hs hKs, h2, h3, hKs, ?_⟩
  have e1 := rk_self h2
  have e2 := rk_mono hne hKs
  omega
theorem sep_iff {s : Nat} (hs : s < bit m) : rk L s + rk L (nand (bit m - 1) s) = rk L (bit m - 1) ↔ ∀ c, c < bit m → Circ L c → c &&& s ≠ 0 → sub c s := by
  have hb := bit_le m hm
  have ha := all_lt m
  have hcs := nand_all_lt m s
  have hz0 : Ind L 0 := by
    obtain ⟨b, hb1, _⟩ := rk_at hne s
    exact ⟨b, hb1, fun i hi => by rw [Nat.zero_testBit] at hi; cases hi⟩
  have hz : ∀ t, sub 0 t := fun t i hi => by rw [Nat.zero_testBit] at hi; cases hi
  -- two independent sets, one within s and one without, span all together
  have span : ∀ I J, I < bit m → J < bit m → sub I s → sub J (nand (bit m - 1) s) → rk L I = rk L s → rk L J = rk L (nand (bit m - 1) s) → rk L (I ||| J) = rk L (bit m - 1) := by
    intro I J hI hJ hIs hJs h1 h2
    have a1 := rk_absorb hm hne hF hE hlt hI hs (max_ind hm hne hF hE hlt hs hIs h1) (or_lt_bit hI hJ) (sub_or_left I J)
    have a2 := rk_absorb hm hne hF hE hlt hJ hcs (max_ind hm hne hF hE hlt hcs hJs h2) (or_lt_bit (or_lt_bit hI hJ) hs) (fun k hk => by rw [Nat.testBit_or, Nat.testBit_or, hk]; simp)
    have e : I ||| J ||| s ||| nand (bit m - 1) s = bit m - 1 := by
      apply Nat.eq_of_testBit_eq
      intro k
      rw [Nat.testBit_or, Nat.testBit_or, Nat.testBit_or, nand_testBit, testBit_all]
      by_cases hk : k < m
      · rw [decide_eq_true hk]; cases s.testBit k <;> simp
      · have n1 : ∀ x, x < bit m → x.testBit k = false := fun x hx => by
          rw [Bool.eq_false_iff]; intro c
          exact hk (lt_m_of_testBit hx c)
        rw [decide_eq_false hk, n1 I hI, n1 J hJ, n1 s hs]; rfl
    rw [e] at a2
    omega
  have disj : ∀ I J, sub I s → sub J (nand (bit m - 1) s) → I &&& J = 0 := fun I J h1 h2 => and_eq_zero_iff.2 (fun k hk => by
    cases hj : J.testBit k
    · rfl
    · have h3 := h1 k hk
      have h4 := h2 k hj
      rw [nand_testBit, h3] at h4
      simp at h4)
  have union : ∀ I J, I < bit m → J < bit m → sub I s → sub J (nand (bit m - 1) s) → sz (I ||| J) = sz I + sz J := fun I J _ _ h1 h2 => by
    have := sz_incl I J
    rw [disj I J h1 h2, sz_zero] at this
    omega
  constructor
  · intro hr c hc hci hn
    by_cases hsub : sub c s
    · exact hsub
    · exfalso
      -- both parts of the circuit are proper
      have hp1 : Ind L (c &&& s) := hci.2 _ (sub_lt256 (by omega) (sub_and_left c s)) (sub_and_left c s) (fun e => hsub (by rw [← e]; exact sub_and_right c s))
      have hp2 : Ind L (nand c s) := hci.2 _ (nand_lt _ _ 8 (by omega)) (fun k hk => by rw [nand_testBit, Bool.and_eq_true] at hk; exact hk.1) (fun e => hn (and_eq_zero_iff.2 (fun k hk => by
        have h1 : (nand c s).testBit k = true := by rw [e]; exact hk
        rw [nand_testBit, hk] at h1
        simpa using h1)))
      have hq2 : sub (nand c s) (nand (bit m - 1) s) := fun k hk => by
        rw [nand_testBit, Bool.and_eq_true] at hk
        rw [nand_testBit, testBit_all, decide_eq_true (lt_m_of_testBit hc hk.1)]
        simpa using hk.2
      obtain ⟨I, i1, i2, i3, i4, i5⟩ := grow_ind hm hne hF hE hlt hs hp1 (sub_and_right c s)
      obtain ⟨J, j1, j2, j3, j4, j5⟩ := grow_ind hm hne hF hE hlt hcs hp2 hq2
      have hsp := span I J i1 j1 i4 j4 i5 j5
      have hu := union I J i1 j1 i4 j4
      have e1 := rk_self i2
      have e2 := rk_self j2
      have hInd : Ind L (I ||| J) := (ind_rk hne (by have := or_lt_bit i1 j1; omega)).2 (by omega)
      refine hci.1 (hInd.down (fun k hk => ?_))
      rw [Nat.testBit_or, Bool.or_eq_true]
      cases hsk : s.testBit k
      · exact .inr (j3 k (by rw [nand_testBit, hk, hsk]; rfl))
      · exact .inl (i3 k (by rw [Nat.testBit_and, hk, hsk]; rfl))
  · intro h
    obtain ⟨I, i1, i2, _, i4, i5⟩ := grow_ind hm hne hF hE hlt hs hz0 (hz s)
    obtain ⟨J, j1, j2, _, j4, j5⟩ := grow_ind hm hne hF hE hlt hcs hz0 (hz _)
    have hsp := span I J i1 j1 i4 j4 i5 j5
    have hu := union I J i1 j1 i4 j4
    have e1 := rk_self i2
    have e2 := rk_self j2
    have hIJ := or_lt_bit i1 j1
    have hInd : Ind L (I ||| J) := Classical.byContradiction fun hno => by
      obtain ⟨c, c1, c2, c3⟩ := dep_circ _ (I ||| J) (by omega) rfl hno
      have hcm : c < bit m := lt_bit_of_sub hm hIJ c2
      by_cases hn : c &&& s = 0
      · refine c3.1 (j2.down (fun k hk => ?_))
        have h1 := c2 k hk
        rw [Nat.testBit_or, Bool.or_eq_true] at h1
        rcases h1 with h1 | h1
        · have := and_eq_zero_iff.1 hn k hk
          rw [i4 k h1] at this; cases this
        · exact h1
      · have hcs2 := h c hcm c3 hn
        refine c3.1 (i2.down (fun k hk => ?_))
        have h1 := c2 k hk
        rw [Nat.testBit_or, Bool.or_eq_true] at h1
        rcases h1 with h1 | h1
        · exact h1
        · have h2 := j4 k h1
          rw [nand_testBit, hcs2 k hk] at h2
          simp at h2
    have e3 := rk_self hInd
    omega
/-- a set whose rank and that of the others are that of all -/
def sepB (m : Nat) (L : List Nat) (s : Nat) : Bool := decide (0 < s) && decide (rk L s + rk L (nand (bit m - 1) s) = rk L (bit m - 1))
/-- the list of what is tied to each element -/
def cmpL (m : Nat) (L : List Nat) : List Nat := (List.range m).map (cmp (those m (circP L)) m)
theorem comp_same : those m (memB (cmpL m L)) = those m (leastB (those m (sepB m L))) := by
  have hb := bit_le m hm
  have hC : ∀ c, c ∈ those m (circP L) → c < bit m := fun c hc => (mem_those.1 hc).1
  have hsep : ∀ s, s < bit m → (sepB m L s = true ↔ 0 < s ∧ Shutc (those m (circP L)) s) := fun s hs => by
    unfold sepB
    rw [Bool.and_eq_true, decide_eq_true_eq, decide_eq_true_eq, sep_iff hm hne hF hE hlt hs]
    constructor
    · rintro ⟨h1, h2⟩
      refine ⟨h1, fun c hc hn => ?_⟩
      rw [circ_same hm hne] at hc
      obtain ⟨g1, g2⟩ := (mem_circ2 hm).1 hc
      exact h2 c g1 g2 hn
    · rintro ⟨h1, h2⟩
      refine ⟨h1, fun c g1 g2 hn => h2 c ?_ hn⟩
      rw [circ_same hm hne]
      exact (mem_circ2 hm).2 ⟨g1, g2⟩
  refine those_mem_eq (fun s hs => ?_)
  unfold memB cmpL leastB
  rw [decide_eq_true_eq, List.mem_map, Bool.and_eq_true, decide_eq_true_eq, List.all_eq_true, mem_those, hsep s hs]
  constructor
  · rintro ⟨i, hi, rfl⟩
    have him := List.mem_range.1 hi
    obtain ⟨a1, a2, a3, a4⟩ := cmp_spec hm hC him
    have hpos : 0 < cmp (those m (circP L)) m i := Nat.pos_of_ne_zero (fun e => by rw [e, Nat.zero_testBit] at a2; cases a2)
    refine ⟨⟨a3, hpos, a1⟩, fun x hx => ?_⟩
    obtain ⟨hx1, hx2⟩ := mem_those.1 hx
    obtain ⟨hx3, hx4⟩ := (hsep x hx1).1 hx2
    rw [Bool.or_eq_true, decide_eq_true_eq, Bool.not_eq_true', decide_eq_false_iff_not]
    by_cases e : x = cmp (those m (circP L)) m i
    · exact .inl e
    · right
      intro hsub
      have hsub2 := or_eq_iff.1 hsub
      obtain ⟨j, hj8, hj⟩ := exists_bit (show x < 256 by omega) (by omega)
      have hjm := lt_m_of_testBit hx1 hj
      obtain ⟨b1, b2, b3, b4⟩ := cmp_spec hm hC hjm
      have hjx := b4 x hx4 hj
      refine e (sub_antisymm hsub2 ?_)
      -- i hangs on j, else i's component lies without j's
      have hij : (cmp (those m (circP L)) m j).testBit i = true := by
        cases c : (cmp (those m (circP L)) m j).testBit i
        · have := a4 _ (Shutc.rest hC b3 b1) (by rw [nand_testBit, testBit_all, decide_eq_true him, c]; rfl) j (hsub2 j hj)
          rw [nand_testBit, b2] at this
          simp at this
        · rfl
      exact sub_trans (a4 _ b1 hij) hjx
  · rintro ⟨⟨_, hpos, hsh⟩, hall⟩
    obtain ⟨j, hj8, hj⟩ := exists_bit (show s < 256 by omega) (by omega)
    have hjm := lt_m_of_testBit hs hj
    obtain ⟨b1, b2, b3, b4⟩ := cmp_spec hm hC hjm
    refine ⟨j, List.mem_range.2 hjm, ?_⟩
    have hpos2 : 0 < cmp (those m (circP L)) m j := Nat.pos_of_ne_zero (fun e => by rw [e, Nat.zero_testBit] at b2; cases b2)
    have := hall _ (mem_those.2 ⟨b3, (hsep _ b3).2 ⟨hpos2, b1⟩⟩)
    rw [Bool.or_eq_true, decide_eq_true_eq, Bool.not_eq_true', decide_eq_false_iff_not] at this
    rcases this with h | h
    · exact h
    · exact absurd (or_eq_iff.2 (b4 s hsh hj)) h
end

end Go.Proofs.Ytefkhnibempibaa
