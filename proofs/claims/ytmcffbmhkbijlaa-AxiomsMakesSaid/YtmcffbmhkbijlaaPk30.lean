
/-
  The least and the greatest sets of a family, its blocker and its shadow, GALE's order: plainly.
  Matroids from ranks and from hyperplanes, plainly. No program in sight.
  The function values of axioms.OfIndependents, OfCircuits, OfRanks, OfHyperplanes.
-/
import Derived.Test.YtmcffbmhkbijlaaPk10
import Derived.Test.YtmcffbmhkbijlaaPk12
import Derived.Test.YtmcffbmhkbijlaaPk29
import Derived.Test.YtmcffbmhkbijlaaPk20
import Derived.Test.YtmcffbmhkbijlaaPk04
import Derived.Test.YtmcffbmhkbijlaaPk13
import Derived.Test.YtmcffbmhkbijlaaPk16
namespace Go.Proofs.Ytmcffbmhkbijlaa
set_option linter.unusedVariables false

theorem and_eq_iff {a b : Nat} : a &&& b = a ↔ sub a b := by
  constructor
  · intro h i hi
    rw [← h, Nat.testBit_and] at hi
    simp at hi; exact hi.2
  · exact and_eq_left
theorem ints_inj {a b : List Nat} (h : ints a = ints b) : a = b := by
  unfold ints at h
  exact (List.map_inj_right (fun x y h => by omega)).1 h
theorem nat_ext {a b : List Nat} (ha : a.Pairwise (· < ·)) (hb : b.Pairwise (· < ·)) (h : ∀ x, x ∈ a ↔ x ∈ b) : a = b := by
  refine ints_inj (pw_ext ?_ ?_ (fun x => ?_))
  · unfold ints; rw [List.pairwise_map]; exact ha.imp (fun h => by omega)
  · unfold ints; rw [List.pairwise_map]; exact hb.imp (fun h => by omega)
  · rw [mem_ints2, mem_ints2]
    constructor
    · rintro ⟨n, h1, e⟩; exact ⟨n, (h n).1 h1, e⟩
    · rintro ⟨n, h1, e⟩; exact ⟨n, (h n).2 h1, e⟩
theorem those_pwN (m : Nat) (p : Nat → Bool) : (those m p).Pairwise (· < ·) := List.Pairwise.filter p List.pairwise_lt_range

/-! ### the least and the greatest -/
def loneB (L : List Nat) (s : Nat) : Bool := !(L.any (fun t => decide (t ≠ s ∧ t &&& s = t)))
def topB (L : List Nat) (s : Nat) : Bool := !(L.any (fun t => decide (t ≠ s ∧ t &&& s = s)))
def filtTo (p : Nat → Bool) (L : List Nat) (k : Nat) : List Nat := (L.take k).filter p
theorem filtTo_step (p : Nat → Bool) (L : List Nat) {k : Nat} (hk : k < L.length) : filtTo p L (k + 1) = if p (L.getD k 0) = true then filtTo p L k ++ [L.getD k 0] else filtTo p L k := by
  unfold filtTo
  rw [List.take_add_one, List.getElem?_eq_getElem hk, List.filter_append]
  have : L.getD k 0 = L[k] := by simp [hk]
  rw [this]
  by_cases h : p L[k] = true
  · simp [h]
  · simp [h]
theorem filtTo_len (p : Nat → Bool) (L : List Nat) (k : Nat) : (filtTo p L k).length ≤ L.length := by
  have h1 := List.length_filter_le p (L.take k)
  have h2 := List.length_take_le k L
  have h3 : (L.take k).length ≤ L.length := by simp; omega
  unfold filtTo; omega
theorem filtTo_all (p : Nat → Bool) (L : List Nat) : filtTo p L L.length = L.filter p := by unfold filtTo; rw [List.take_length]
theorem leastB_iff {M : List Nat} {s : Nat} : leastB M s = true ↔ s ∈ M ∧ ∀ x, x ∈ M → sub x s → x = s := by
  unfold leastB
  rw [Bool.and_eq_true, decide_eq_true_eq, List.all_eq_true]
  constructor
  · rintro ⟨h1, h2⟩
    refine ⟨h1, fun x hx hs => ?_⟩
    have := h2 x hx
    simp [or_eq_iff.2 hs] at this
    exact this
  · rintro ⟨h1, h2⟩
    refine ⟨h1, fun x hx => ?_⟩
    by_cases e : x = s
    · simp [e]
    · have : ¬ x ||| s = s := fun h => e (h2 x hx (or_eq_iff.1 h))
      simp [e, this]
theorem loneB_iff {L : List Nat} {s : Nat} : loneB L s = true ↔ ∀ x, x ∈ L → sub x s → x = s := by
  unfold loneB
  rw [Bool.not_eq_true', Bool.eq_false_iff, ne_eq, List.any_eq_true]
  constructor
  · intro h x hx hs
    exact Classical.byContradiction fun e => h ⟨x, hx, by simpa using ⟨e, and_eq_iff.2 hs⟩⟩
  · rintro h ⟨x, hx, e⟩
    have e := of_decide_eq_true e
    exact e.1 (h x hx (and_eq_iff.1 e.2))
theorem topB_iff {L : List Nat} {s : Nat} : topB L s = true ↔ ∀ x, x ∈ L → sub s x → x = s := by
  unfold topB
  rw [Bool.not_eq_true', Bool.eq_false_iff, ne_eq, List.any_eq_true]
  constructor
  · intro h x hx hs
    exact Classical.byContradiction fun e => h ⟨x, hx, decide_eq_true ⟨e, by rw [Nat.and_comm]; exact and_eq_iff.2 hs⟩⟩
  · rintro h ⟨x, hx, e⟩
    have e := of_decide_eq_true e
    exact e.1 (h x hx (and_eq_iff.1 (by rw [Nat.and_comm]; exact e.2)))
theorem filt_least {m : Nat} {L : List Nat} (hr : L.Pairwise (· < ·)) (hlt : ∀ b, b ∈ L → b < bit m) : L.filter (loneB L) = those m (leastB L) :=
  nat_ext (hr.filter _) (those_pwN _ _) (fun x => by
    rw [List.mem_filter, mem_those, loneB_iff, leastB_iff]
    constructor
    · rintro ⟨h1, h2⟩; exact ⟨hlt x h1, h1, h2⟩
    · rintro ⟨_, h1, h2⟩; exact ⟨h1, h2⟩)
theorem filt_most {m : Nat} {L : List Nat} (hr : L.Pairwise (· < ·)) (hlt : ∀ b, b ∈ L → b < bit m) : L.filter (topB L) = those m (mostB L) :=
  nat_ext (hr.filter _) (those_pwN _ _) (fun x => by
    rw [List.mem_filter, mem_those, topB_iff, mostB_iff]
    constructor
    · rintro ⟨h1, h2⟩; exact ⟨hlt x h1, h1, h2⟩
    · rintro ⟨_, h1, h2⟩; exact ⟨h1, h2⟩)
/-- below each set of a family lies a least one -/
theorem least_below {V : List Nat} : ∀ k v, v ≤ k → v ∈ V → ∃ b, leastB V b = true ∧ sub b v
  | k, v, hk, hv => by
    by_cases h : ∀ x, x ∈ V → sub x v → x = v
    · exact ⟨v, leastB_iff.2 ⟨hv, h⟩, fun i h => h⟩
    · simp only [Classical.not_forall] at h
      obtain ⟨x, hx, hs, hne⟩ := h
      have hle := subLe hs
      cases k with
      | zero => omega
      | succ k =>
        obtain ⟨b, h1, h2⟩ := least_below k x (by omega) hx
        exact ⟨b, h1, sub_trans h2 hs⟩
where
  subLe {a b : Nat} (h : sub a b) : a ≤ b := by
    have := or_eq_iff.2 h
    have h2 : a ≤ a ||| b := Nat.left_le_or
    omega
/-- two families, one within the other, that lies above it: the same least sets -/
theorem least_eq {U V : List Nat} (h1 : ∀ u, u ∈ U → u ∈ V) (h2 : ∀ v, v ∈ V → ∃ u, u ∈ U ∧ sub u v) (s : Nat) : leastB U s = true ↔ leastB V s = true := by
  rw [leastB_iff, leastB_iff]
  constructor
  · rintro ⟨hs, h⟩
    refine ⟨h1 s hs, fun x hx hxs => ?_⟩
    obtain ⟨u, hu, hux⟩ := h2 x hx
    have e := h u hu (sub_trans hux hxs)
    subst e
    exact sub_antisymm hxs hux
  · rintro ⟨hs, h⟩
    obtain ⟨u, hu, hus⟩ := h2 s hs
    have e := h u (h1 u hu) hus
    subst e
    exact ⟨hu, fun x hx hxs => h x (h1 x hx) hxs⟩

/-! ### the blocker -/
def meetsB (M : List Nat) (s : Nat) : Bool := M.all (fun x => !decide (s &&& x = 0))
theorem meetsB_iff {M : List Nat} {s : Nat} : meetsB M s = true ↔ ∀ x, x ∈ M → s &&& x ≠ 0 := by
  unfold meetsB
  rw [List.all_eq_true]
  constructor
  · intro h x hx; simpa using h x hx
  · intro h x hx; simpa using h x hx
/-- a set, and each element of another one for it -/
def addTo (b s i : Nat) : List Nat := (elemsTo s i).map (fun j => b ||| bit j)
theorem addTo_step (b s i : Nat) : addTo b s (i + 1) = if s.testBit i = true then addTo b s i ++ [b ||| bit i] else addTo b s i := by
  unfold addTo
  rw [elemsTo_step]
  by_cases h : s.testBit i = true
  · simp [h]
  · simp [h]
theorem addTo_len (b s i : Nat) : (addTo b s i).length ≤ i := by
  have := elemsTo_len s i
  simpa [addTo] using this
def nextOf (m s b : Nat) : List Nat := if b &&& s = 0 then addTo b s m else [b]
def nextTo (m s : Nat) (now : List Nat) (k : Nat) : List Nat := (now.take k).flatMap (nextOf m s)
theorem nextTo_step (m s : Nat) (now : List Nat) {k : Nat} (hk : k < now.length) : nextTo m s now (k + 1) = nextTo m s now k ++ nextOf m s (now.getD k 0) := by
  unfold nextTo
  rw [List.take_add_one, List.getElem?_eq_getElem hk, List.flatMap_append]
  have : now.getD k 0 = now[k] := by simp [hk]
  rw [this]
  simp
theorem nextOf_len (m s b : Nat) (hm : m ≤ 8) : (nextOf m s b).length ≤ 8 := by
  unfold nextOf
  split
  · have := addTo_len b s m; omega
  · simp
theorem nextTo_len (m s : Nat) (hm : m ≤ 8) (now : List Nat) (k : Nat) : (nextTo m s now k).length ≤ 8 * k := by
  induction k with
  | zero => simp [nextTo]
  | succ k ih =>
    by_cases h : k < now.length
    · rw [nextTo_step m s now h, List.length_append]
      have := nextOf_len m s (now.getD k 0) hm
      omega
    · have e : nextTo m s now (k + 1) = nextTo m s now k := by
        unfold nextTo
        rw [List.take_of_length_le (by omega), List.take_of_length_le (by omega)]
      rw [e]; omega
theorem mem_elemsTo {s i j : Nat} : j ∈ elemsTo s i ↔ j < i ∧ s.testBit j = true := by simp [elemsTo]
theorem mem_nextOf {m s b x : Nat} : x ∈ nextOf m s b ↔ (b &&& s ≠ 0 ∧ x = b) ∨ (b &&& s = 0 ∧ ∃ i, i < m ∧ s.testBit i = true ∧ x = b ||| bit i) := by
  unfold nextOf
  by_cases h : b &&& s = 0
  · rw [if_pos h]
    unfold addTo
    rw [List.mem_map]
    constructor
    · rintro ⟨j, hj, rfl⟩
      have := mem_elemsTo.1 hj
      exact .inr ⟨h, j, this.1, this.2, rfl⟩
    · rintro (⟨h1, _⟩ | ⟨_, i, h1, h2, rfl⟩)
      · exact absurd h h1
      · exact ⟨i, mem_elemsTo.2 ⟨h1, h2⟩, rfl⟩
  · rw [if_neg h]
    constructor
    · intro hx; exact .inl ⟨h, by simpa using hx⟩
    · rintro (⟨_, rfl⟩ | ⟨h1, _⟩)
      · simp
      · exact absurd h1 h
theorem mem_nextTo {m s x : Nat} {now : List Nat} : x ∈ nextTo m s now now.length ↔ ∃ b, b ∈ now ∧ x ∈ nextOf m s b := by
  unfold nextTo
  rw [List.take_length, List.mem_flatMap]
theorem nextTo_lt {m s : Nat} {now : List Nat} (hm : m ≤ 8) (h : ∀ b, b ∈ now → b < bit m) {x k : Nat} (hx : x ∈ nextTo m s now k) : x < bit m := by
  unfold nextTo at hx
  obtain ⟨b, hb, hx⟩ := List.mem_flatMap.1 hx
  have hb := h b (List.mem_of_mem_take hb)
  rcases mem_nextOf.1 hx with ⟨_, rfl⟩ | ⟨_, i, hi, _, rfl⟩
  · exact hb
  · exact or_lt_bit hb (bit_lt_bit hi)
/-- what the blocker is behind so many sets -/
def blkTo (m : Nat) (L : List Nat) : Nat → List Nat
  | 0 => [0]
  | k + 1 => those m (leastB (those m (memB (nextTo m (L.getD k 0) (blkTo m L k) (blkTo m L k).length))))
theorem meets_take {L : List Nat} {k : Nat} (hk : k < L.length) {s : Nat} : meetsB (L.take (k + 1)) s = true ↔ meetsB (L.take k) s = true ∧ s &&& L.getD k 0 ≠ 0 := by
  rw [meetsB_iff, meetsB_iff, List.take_add_one, List.getElem?_eq_getElem hk]
  have : L.getD k 0 = L[k] := by simp [hk]
  rw [this]
  constructor
  · intro h
    exact ⟨fun x hx => h x (List.mem_append_left _ hx), h _ (List.mem_append_right _ (by simp))⟩
  · rintro ⟨h1, h2⟩ x hx
    rcases List.mem_append.1 hx with hx | hx
    · exact h1 x hx
    · have : x = L[k] := by simpa using hx
      subst this; exact h2
theorem ne_zero_bit {a b : Nat} (h : a &&& b ≠ 0) : ∃ i, a.testBit i = true ∧ b.testBit i = true :=
  Classical.byContradiction fun hn => h (and_eq_zero_iff.2 (fun i hi => by
    cases c : b.testBit i
    · rfl
    · exact absurd ⟨i, hi, c⟩ hn))
theorem meets_sub {a b x : Nat} (h : a &&& x ≠ 0) (hs : sub a b) : b &&& x ≠ 0 := fun e => by
  obtain ⟨i, h1, h2⟩ := ne_zero_bit h
  have := and_eq_zero_iff.1 e i (hs i h1)
  rw [h2] at this; cases this
theorem meets_bit {b x i : Nat} (hx : x.testBit i = true) : (b ||| bit i) &&& x ≠ 0 := fun e => by
  have := and_eq_zero_iff.1 e i (by rw [or_bit_testBit]; simp)
  rw [hx] at this; cases this
theorem blk_is {m : Nat} (hm : m ≤ 8) {L : List Nat} (hL : ∀ b, b ∈ L → b < bit m) : ∀ k, k ≤ L.length → blkTo m L k = those m (leastB (those m (meetsB (L.take k))))
  | 0, _ => by
    have hb := bit_le m hm
    refine nat_ext (List.pairwise_singleton _ _) (those_pwN _ _) (fun x => ?_)
    rw [mem_those, leastB_iff]
    have h0 : ∀ y, y ∈ those m (meetsB (L.take 0)) ↔ y < bit m := fun y => by
      rw [mem_those, meetsB_iff]
      exact ⟨fun h => h.1, fun h => ⟨h, fun x hx => by simp at hx⟩⟩
    constructor
    · intro hx
      have : x = 0 := by simpa [blkTo] using hx
      subst this
      refine ⟨by omega, (h0 0).2 (by omega), fun y hy hs => ?_⟩
      exact sub_antisymm hs (fun i hi => by simp at hi)
    · rintro ⟨_, _, h⟩
      have := h 0 ((h0 0).2 (by omega)) (fun i hi => by simp at hi)
      rw [← this]; simp [blkTo]
  | k + 1, hk => by
    have ih := blk_is hm hL k (by omega)
    have hs : L.getD k 0 < bit m := hL _ (by simp [show k < L.length by omega])
    have hst := @meets_take L k (by omega)
    show those m (leastB (those m (memB (nextTo m (L.getD k 0) (blkTo m L k) (blkTo m L k).length)))) = _
    rw [ih]
    generalize L.getD k 0 = s at *
    have hnow : ∀ b, b ∈ those m (leastB (those m (meetsB (L.take k)))) → b < bit m := fun b hb => (mem_those.1 hb).1
    refine those_mem_eq (fun x hx => least_eq ?_ ?_ x)
    · intro u hu
      rw [mem_those] at hu ⊢
      obtain ⟨h1, h2⟩ := hu
      refine ⟨h1, ?_⟩
      have h2 : u ∈ nextTo m s _ _ := of_decide_eq_true h2
      rw [mem_nextTo] at h2
      obtain ⟨b, hb, hu⟩ := h2
      have hb2 := (mem_those.1 (leastB_iff.1 (mem_those.1 hb).2).1).2
      rw [hst]
      rcases mem_nextOf.1 hu with ⟨g1, rfl⟩ | ⟨g1, i, g2, g3, rfl⟩
      · exact ⟨hb2, g1⟩
      · exact ⟨meetsB_iff.2 (fun y hy => meets_sub (meetsB_iff.1 hb2 y hy) (sub_or_left _ _)), meets_bit g3⟩
    · intro v hv
      rw [mem_those, hst] at hv
      obtain ⟨h1, h2, h3⟩ := hv
      obtain ⟨b, hb, hbv⟩ := least_below v v (Nat.le_refl _) (show v ∈ those m (meetsB (L.take k)) from mem_those.2 ⟨h1, h2⟩)
      have hbm : b < bit m := lt_bit_of_sub hm h1 hbv
      have hbn : b ∈ those m (leastB (those m (meetsB (L.take k)))) := mem_those.2 ⟨hbm, hb⟩
      by_cases c : b &&& s = 0
      · obtain ⟨i, g1, g2⟩ := ne_zero_bit h3
        have him := lt_m_of_testBit h1 g1
        refine ⟨b ||| bit i, mem_those.2 ⟨or_lt_bit hbm (bit_lt_bit him), decide_eq_true (mem_nextTo.2 ⟨b, hbn, mem_nextOf.2 (.inr ⟨c, i, him, g2, rfl⟩)⟩)⟩, ?_⟩
        intro j hj
        rw [or_bit_testBit, Bool.or_eq_true, decide_eq_true_eq] at hj
        rcases hj with hj | rfl
        · exact hbv j hj
        · exact g1
      · exact ⟨b, mem_those.2 ⟨hbm, decide_eq_true (mem_nextTo.2 ⟨b, hbn, mem_nextOf.2 (.inl ⟨c, rfl⟩)⟩)⟩, hbv⟩
theorem blk_all {m : Nat} (hm : m ≤ 8) {L : List Nat} (hL : ∀ b, b ∈ L → b < bit m) : blkTo m L L.length = those m (leastB (those m (meetsB L))) := by
  rw [blk_is hm hL _ (Nat.le_refl _), List.take_length]
theorem blk_lt {m : Nat} {L : List Nat} (hm : m ≤ 8) {k b : Nat} (h : b ∈ blkTo m L k) : b < bit m := by
  have := bit_le m hm
  cases k with
  | zero => have : b = 0 := by simpa [blkTo] using h
            omega
  | succ k => exact (mem_those.1 h).1
theorem blk_len {m : Nat} {L : List Nat} (hm : m ≤ 8) (k : Nat) : (blkTo m L k).length ≤ 256 := by
  have := bit_le m hm
  cases k with
  | zero => simp [blkTo]
  | succ k =>
    have h := thoseTo_len (leastB (those m (memB (nextTo m (L.getD k 0) (blkTo m L k) (blkTo m L k).length)))) (bit m)
    have e : blkTo m L (k + 1) = thoseTo (leastB (those m (memB (nextTo m (L.getD k 0) (blkTo m L k) (blkTo m L k).length)))) (bit m) := rfl
    rw [e]; omega
theorem blk_pw {m : Nat} {L : List Nat} (k : Nat) : (blkTo m L k).Pairwise (· < ·) := by
  cases k with
  | zero => exact List.pairwise_singleton _ _
  | succ k => exact those_pwN _ _

/-! ### the shadow -/
def shadOf (m s : Nat) : List Nat := (elemsTo s m).map (fun i => nand s (bit i))
def shadTo (m : Nat) (L : List Nat) (k : Nat) : List Nat := (L.take k).flatMap (shadOf m)
def shedTo (s i : Nat) : List Nat := (elemsTo s i).map (fun i => nand s (bit i))
theorem shedTo_step (s i : Nat) : shedTo s (i + 1) = if s.testBit i = true then shedTo s i ++ [nand s (bit i)] else shedTo s i := by
  unfold shedTo
  rw [elemsTo_step]
  by_cases h : s.testBit i = true
  · simp [h]
  · simp [h]
theorem shedTo_len (s i : Nat) : (shedTo s i).length ≤ i := by
  have := elemsTo_len s i
  simpa [shedTo] using this
theorem shadTo_step (m : Nat) (L : List Nat) {k : Nat} (hk : k < L.length) : shadTo m L (k + 1) = shadTo m L k ++ shedTo (L.getD k 0) m := by
  unfold shadTo
  rw [List.take_add_one, List.getElem?_eq_getElem hk, List.flatMap_append]
  have : L.getD k 0 = L[k] := by simp [hk]
  rw [this]
  simp [shadOf, shedTo]
theorem shadTo_len (m : Nat) (hm : m ≤ 8) (L : List Nat) (k : Nat) : (shadTo m L k).length ≤ 8 * k := by
  induction k with
  | zero => simp [shadTo]
  | succ k ih =>
    by_cases h : k < L.length
    · rw [shadTo_step m L h, List.length_append]
      have := shedTo_len (L.getD k 0) m
      omega
    · have e : shadTo m L (k + 1) = shadTo m L k := by
        unfold shadTo
        rw [List.take_of_length_le (by omega), List.take_of_length_le (by omega)]
      rw [e]; omega
def shadB (m : Nat) (L : List Nat) (s : Nat) : Bool := (List.range m).any (fun i => !s.testBit i && decide (s + bit i ∈ L))
theorem nand_back {s i : Nat} (h : s.testBit i = false) : nand (s ||| bit i) (bit i) = s := by
  apply Nat.eq_of_testBit_eq
  intro j
  rw [nand_testBit, or_bit_testBit, testBit_bit]
  by_cases c : i = j
  · subst c; simp [h]
  · simp [c]
theorem shad_is {m : Nat} (hm : m ≤ 8) {L : List Nat} (hL : ∀ b, b ∈ L → b < bit m) : those m (memB (shadTo m L L.length)) = those m (shadB m L) := those_mem_eq (fun x hx => by
  have hb8 := bit_le m hm
  unfold shadB memB
  rw [decide_eq_true_eq, List.any_eq_true]
  unfold shadTo
  rw [List.take_length, List.mem_flatMap]
  constructor
  · rintro ⟨s, hs, h⟩
    obtain ⟨i, hi, rfl⟩ := List.mem_map.1 h
    obtain ⟨h1, h2⟩ := mem_elemsTo.1 hi
    refine ⟨i, by simpa using h1, ?_⟩
    have hb : (nand s (bit i)).testBit i = false := nand_bit_bit s i
    have hx8 : nand s (bit i) < 256 := by omega
    rw [hb, ← or_bit _ i hx8 (by omega) hb, nand_or_bit h2]
    simpa using hs
  · rintro ⟨i, hi, h⟩
    rw [Bool.and_eq_true, Bool.not_eq_true', decide_eq_true_eq] at h
    obtain ⟨h1, h2⟩ := h
    have hi : i < m := by simpa using hi
    rw [← or_bit x i (by omega) (by omega) h1] at h2
    refine ⟨x ||| bit i, h2, List.mem_map.2 ⟨i, mem_elemsTo.2 ⟨hi, by rw [or_bit_testBit]; simp⟩, nand_back h1⟩⟩)

/-! ### GALE's order -/
theorem elemsTo_split (s t : Nat) : ∀ n, t ≤ n → ∃ R, elemsTo s n = elemsTo s t ++ R ∧ ∀ x, x ∈ R → t ≤ x
  | 0, h => ⟨[], by have : t = 0 := by omega
                    subst this; simp, fun x hx => by cases hx⟩
  | n + 1, h => by
    by_cases e : t = n + 1
    · subst e; exact ⟨[], by simp, fun x hx => by cases hx⟩
    · obtain ⟨R, h1, h2⟩ := elemsTo_split s t n (by omega)
      rw [elemsTo_step]
      by_cases c : s.testBit n = true
      · rw [if_pos c]
        refine ⟨R ++ [n], by rw [h1, List.append_assoc], fun x hx => ?_⟩
        rcases List.mem_append.1 hx with hx | hx
        · exact h2 x hx
        · have : x = n := by simpa using hx
          omega
      · rw [if_neg c]; exact ⟨R, h1, h2⟩
theorem elems_before {s t i : Nat} (ht : t ≤ 8) (hi : i < sz s) : i < (elemsTo s t).length ↔ (elems s).getD i 0 < t := by
  obtain ⟨R, h1, h2⟩ := elemsTo_split s t 8 ht
  have e : elems s = elemsTo s t ++ R := h1
  have hl : sz s = (elemsTo s t).length + R.length := by unfold sz; rw [e, List.length_append]
  constructor
  · intro h
    have : (elems s).getD i 0 = (elemsTo s t)[i] := by
      rw [e]; simp [List.getElem?_append_left h, h]
    rw [this]
    have := List.getElem_mem h
    exact (mem_elemsTo.1 this).1
  · intro h
    refine Classical.byContradiction fun hn => ?_
    have hr : i - (elemsTo s t).length < R.length := by omega
    have : (elems s).getD i 0 = R[i - (elemsTo s t).length] := by
      rw [e]; simp [List.getElem?_append_right (show (elemsTo s t).length ≤ i by omega), hr]
    have := h2 _ (List.getElem_mem hr)
    omega
/-- as sets.Below has it: of each first part of the elements a has as many as b -/
def belB (a b : Nat) : Bool := (List.range 8).all (fun i => decide ((elemsTo b (i + 1)).length ≤ (elemsTo a (i + 1)).length))
/-- as rotaref.Gale has it -/
def galeB (a b : Nat) : Bool := (List.range (sz a)).all (fun i => decide ((elems a).getD i 0 ≤ (elems b).getD i 0))
theorem elemsTo_mono (s : Nat) {i j : Nat} (h : i ≤ j) : (elemsTo s i).length ≤ (elemsTo s j).length := by
  obtain ⟨R, e, _⟩ := elemsTo_split s i j h
  rw [e, List.length_append]; omega
theorem gale_is {a b : Nat} (h : sz a = sz b) : belB a b = galeB a b := by
  rw [Bool.eq_iff_iff]
  unfold belB galeB
  rw [List.all_eq_true, List.all_eq_true]
  constructor
  · intro hh i hi
    have hi : i < sz a := by simpa using hi
    have hlt : (elems b).getD i 0 < 8 := (elems_before (Nat.le_refl 8) (by omega)).1 (by show i < sz b; omega)
    have := hh ((elems b).getD i 0) (by simpa using hlt)
    have := of_decide_eq_true this
    have h1 := (elems_before (s := b) (i := i) (t := (elems b).getD i 0 + 1) (by omega) (by omega)).2 (by omega)
    have h2 := (elems_before (s := a) (i := i) (t := (elems b).getD i 0 + 1) (by omega) hi).1 (by omega)
    exact decide_eq_true (by omega)
  · intro hh t ht
    have ht : t < 8 := by simpa using ht
    refine decide_eq_true (Classical.byContradiction fun hn => ?_)
    -- the element of a at place k is not among the first, that of b is
    have hb8 : (elemsTo b (t + 1)).length ≤ sz b := elemsTo_mono b (show t + 1 ≤ 8 by omega)
    have hk : (elemsTo a (t + 1)).length < sz a := by omega
    have h1 := (elems_before (s := b) (i := (elemsTo a (t + 1)).length) (t := t + 1) (by omega) (by omega)).1 (by omega)
    have h2 := of_decide_eq_true (hh (elemsTo a (t + 1)).length (by simpa using hk))
    have h3 := (elems_before (s := a) (i := (elemsTo a (t + 1)).length) (t := t + 1) (by omega) hk).2 (by omega)
    omega

end Go.Proofs.Ytmcffbmhkbijlaa

namespace Go.Proofs.Ytmcffbmhkbijlaa
set_option linter.unusedVariables false

/-- what ranks must have -/
structure RAx (n : Nat) (f : Nat → Int) : Prop where
  zero : f 0 = 0
  step : ∀ s, s < bit n → ∀ i, i < n → f s ≤ f (s ||| bit i) ∧ f (s ||| bit i) ≤ f s + 1
  subm : ∀ s, s < bit n → ∀ i, i < n → ∀ k, k < n → f ((s ||| bit i) ||| (s ||| bit k)) + f ((s ||| bit i) &&& (s ||| bit k)) ≤ f (s ||| bit i) + f (s ||| bit k)
namespace RAx
variable {n : Nat} {f : Nat → Int}
theorem up (h : RAx n f) {s t : Nat} (hs : s < bit n) (ht : t < bit n) : f s ≤ f (s ||| t) := by
  have key : ∀ k, k ≤ n → f s ≤ f (s ||| upM t k) := by
    intro k
    induction k with
    | zero => intro _; rw [upM_zero, Nat.or_zero]; exact Int.le_refl _
    | succ k ih =>
      intro hk
      have ih' := ih (by omega)
      cases hb : t.testBit k
      · rw [upM_no hb]; exact ih'
      · rw [upM_yes hb, ← Nat.or_assoc]
        have := (h.step (s ||| upM t k) (orM_lt hs (upM_lt ht)) k (by omega)).1
        omega
  have := key n (Nat.le_refl _)
  rwa [upM_all ht] at this
theorem mono (h : RAx n f) {s t : Nat} (ht : t < bit n) (hst : sub s t) : f s ≤ f t := by
  have := h.up (subM_lt hst ht) ht
  rwa [or_sub hst] at this
theorem nonneg (h : RAx n f) {s : Nat} (hs : s < bit n) : 0 ≤ f s := by
  have := h.up (bitM_pos n) hs
  rw [h.zero, Nat.zero_or] at this
  exact this
theorem rkM (h : RAx n f) (hn : n ≤ 8) : RkM n (fun s => (f s).toNat) where
  n8 := hn
  zero := by show (f 0).toNat = 0; rw [h.zero]; rfl
  step := fun s i hs hi => by
    have h1 := h.step s hs i hi
    have h2 := h.nonneg hs
    show (f s).toNat ≤ (f (s ||| bit i)).toNat ∧ (f (s ||| bit i)).toNat ≤ (f s).toNat + 1
    omega
  clos := fun s u i hs hu hi hsu he => by
    have he' : f (s ||| bit i) = f s := by
      have h2 := h.nonneg hs
      have h3 := h.nonneg (orM_bit hs hi)
      have : (f (s ||| bit i)).toNat = (f s).toNat := he
      omega
    have key : ∀ k, k ≤ n → f ((s ||| upM u k) ||| bit i) = f (s ||| upM u k) := by
      intro k
      induction k with
      | zero => intro _; rw [upM_zero, Nat.or_zero]; exact he'
      | succ k ih =>
        intro hk
        have ih' := ih (by omega)
        cases hb : u.testBit k
        · rw [upM_no hb]; exact ih'
        · rw [upM_yes hb, ← Nat.or_assoc]
          generalize hv : s ||| upM u k = v at ih' ⊢
          have hvl : v < bit n := by rw [← hv]; exact orM_lt hs (upM_lt hu)
          have h1 := h.subm v hvl i hi k (by omega)
          have h2 : f v ≤ f ((v ||| bit i) &&& (v ||| bit k)) := h.mono (and_lt_bit _ (orM_bit hvl hi)) (fun q hq => by rw [Nat.testBit_and, Nat.testBit_or, Nat.testBit_or, hq]; rfl)
          have h3 : (v ||| bit i) ||| (v ||| bit k) = v ||| bit k ||| bit i := by
            apply Nat.eq_of_testBit_eq; intro q; simp only [Nat.testBit_or]; cases v.testBit q <;> cases (bit i).testBit q <;> simp
          have h4 := (h.step (v ||| bit k) (orM_bit hvl (by omega)) i hi).1
          rw [h3] at h1
          omega
    have h5 := key n (Nat.le_refl _)
    rw [upM_all hu, or_sub hsu] at h5
    show (f (u ||| bit i)).toNat = (f u).toNat
    rw [h5]
end RAx
theorem rkM_rkF {n : Nat} {ρ : Nat → Nat} (h : RkM n ρ) : RkF n ρ := ⟨h.zero, h.step, h.clos⟩
/-- sets of their own rank -/
def PR (f : Nat → Int) (s : Nat) : Bool := decide (f s = sz s)
theorem RAx.bases {n : Nat} {f : Nat → Int} (h : RAx n f) (hn : n ≤ 8) : big n (PR f) = basesM n (fun s => (f s).toNat) := by
  have h1 : big n (PR f) = biggest (those n (fun s => decide ((f s).toNat = sz s))) := by
    have e : those n (PR f) = those n (fun s => decide ((f s).toNat = sz s)) := those_congr (fun s hs => by
      have := h.nonneg hs
      unfold PR
      rw [Bool.eq_iff_iff, decide_eq_true_eq, decide_eq_true_eq]
      omega)
    unfold big
    rw [e]
  rw [h1, RkF.bases (rkM_rkF (h.rkM hn)) hn]
  rfl
theorem RAx.mat {n : Nat} {f : Nat → Int} (h : RAx n f) (hn : n ≤ 8) : ∃ r, MatL n (big n (PR f)) r := by
  rw [h.bases hn]
  exact ⟨_, (h.rkM hn).bases_mat⟩
theorem RAx.rk {n : Nat} {f : Nat → Int} (h : RAx n f) (hn : n ≤ 8) {s : Nat} (hs : s < bit n) : ((rk (big n (PR f)) s : Nat) : Int) = f s := by
  rw [h.bases hn, (h.rkM hn).bases_rk hs]
  have := h.nonneg hs
  omega
theorem MatL.rax {n r : Nat} {L : List Nat} {f : Nat → Int} (h : MatL n L r) (he : ∀ s, s < bit n → ((rk L s : Nat) : Int) = f s) : RAx n f where
  zero := by rw [← he 0 (bitM_pos n), rk_zero]; rfl
  step := fun s hs i hi => by
    rw [← he s hs, ← he _ (orM_bit hs hi)]
    have h1 := rk_mono h.ne (sub_or_left s (bit i))
    have h2 := rk_step h.ne s i (by have := h.n8; omega)
    omega
  subm := fun s hs i hi k hk => by
    have h1 := sub_of_exch h.n8 h.ne h.fam h.exch s hs i hi k hk
    have hi' := orM_bit hs hi
    have hk' := orM_bit hs hk
    rw [← he _ (orM_lt hi' hk'), ← he _ (and_lt_bit _ hi'), ← he _ hi', ← he _ hk']
    omega
/-- THE LAW OF RANKS -/
theorem rank_law {n : Nat} {f : Nat → Int} (hn : n ≤ 8) : RAx n f ↔ (∃ r, MatL n (big n (PR f)) r) ∧ ∀ s, s < bit n → ((Go.Proofs.Ytmcffbmhkbijlaa.rk (big n (PR f)) s : Nat) : Int) = f s := by
  constructor
  · exact fun h => ⟨h.mat hn, fun s hs => h.rk hn hs⟩
  · rintro ⟨⟨r, hM⟩, he⟩
    exact hM.rax he

/-! ### the other way round -/
theorem nand_all_testBit {n s i : Nat} : (nand (bit n - 1) s).testBit i = (decide (i < n) && !s.testBit i) := by rw [nand_testBit, testBit_all]
theorem co_co {n s : Nat} (h : s < bit n) : nand (bit n - 1) (nand (bit n - 1) s) = s := nand_nand h
/-- bases of the dual -/
theorem MatL.dual {n r : Nat} {L : List Nat} (h : MatL n L r) : MatL n (those n (fun s => memB L (nand (bit n - 1) s))) (n - r) where
  n8 := h.n8
  ne := fun e => by
    obtain ⟨b, hb⟩ := List.exists_mem_of_ne_nil L h.ne
    have : nand (bit n - 1) b ∈ those n (fun s => memB L (nand (bit n - 1) s)) := mem_those.2 ⟨nand_all_lt n b, memB_iff.2 (by rw [co_co (h.lt b hb)]; exact hb)⟩
    rw [e] at this; cases this
  fam := ⟨fun b hb => nat8 h.n8 (mem_those.1 hb).1, fun b hb => by
    obtain ⟨h1, h2⟩ := mem_those.1 hb
    have h3 := sz_nand_all h.n8 h1
    have h4 := h.fam.eq _ (memB_iff.1 h2)
    omega⟩
  lt := fun b hb => (mem_those.1 hb).1
  rise := those_congr (fun s hs => by
    rw [Bool.eq_iff_iff, memB_iff, memB_iff, mem_those, memB_iff]
    exact ⟨fun x => ⟨hs, x⟩, fun x => x.2⟩)
  exch := fun A' hA' B' hB' x hx hxB => by
    obtain ⟨a1, a2⟩ := mem_those.1 hA'
    obtain ⟨b1, b2⟩ := mem_those.1 hB'
    have hA := memB_iff.1 a2
    have hB := memB_iff.1 b2
    have hxn := bitM_in a1 hx
    have hx8 : x < 8 := by have := h.n8; omega
    have hAl := h.lt _ hA
    have hBl := h.lt _ hB
    have xA : (nand (bit n - 1) A').testBit x = false := by rw [nand_all_testBit, hx]; simp
    have xB : (nand (bit n - 1) B').testBit x = true := by rw [nand_all_testBit, hxB]; simp [hxn]
    generalize hAe : nand (bit n - 1) A' = A at *
    generalize hBe : nand (bit n - 1) B' = B at *
    have hAx := orM_bit hAl hxn
    have hzA := sz_add hx8 xA
    have hdep : ¬ Ind L (A ||| bit x) := fun hI => by
      obtain ⟨b, hb, hsb⟩ := hI
      have h1 := sz_mono hsb
      rw [h.fam.eq b hb, hzA, h.fam.eq A hA] at h1
      omega
    obtain ⟨c, c8, cs, cC⟩ := dep_circ _ _ (nat8 h.n8 hAx) rfl hdep
    have hcB : ¬ sub c B := fun e => cC.1 ⟨B, hB, e⟩
    obtain ⟨y, y1, y2⟩ := exists_diff hcB
    have hyx : x ≠ y := fun e => by subst e; rw [xB] at y2; cases y2
    have yA : A.testBit y = true := by
      have := cs y y1
      rw [or_bit_testBit] at this
      simpa [hyx] using this
    have yn := bitM_in hAl yA
    have hcx : c.testBit x = true := by
      cases e : c.testBit x
      · exfalso
        refine cC.1 ⟨A, hA, fun i hi => ?_⟩
        have := cs i hi
        rw [or_bit_testBit] at this
        have hne : x ≠ i := fun e2 => by subst e2; rw [e] at hi; cases hi
        simpa [hne] using this
      · rfl
    have hIn : Ind L (nand (A ||| bit x) (bit y)) := by
      apply Classical.byContradiction
      intro hd
      obtain ⟨c', c8', cs', cC'⟩ := dep_circ _ _ (nat8 h.n8 (nand_lt_bit (bit y) hAx)) rfl hd
      have cs2 : sub c' (A ||| bit x) := sub_trans cs' (nand_bit_sub _ _)
      have hcx' : c'.testBit x = true := by
        cases e : c'.testBit x
        · exfalso
          refine cC'.1 ⟨A, hA, fun i hi => ?_⟩
          have := cs2 i hi
          rw [or_bit_testBit] at this
          have hne : x ≠ i := fun e2 => by subst e2; rw [e] at hi; cases hi
          simpa [hne] using this
        · rfl
      have hne : c ≠ c' := fun e => by
        subst e
        have := cs' y y1
        rw [nand_bit_bit] at this; cases this
      have hX := h.cax (l := those n (circB n L)) (fun s => mem_circ2 h.n8)
      obtain ⟨z, hz, hzs⟩ := hX.elim c ((mem_circ2 h.n8).2 ⟨subM_lt cs hAx, cC⟩) c' ((mem_circ2 h.n8).2 ⟨subM_lt cs2 hAx, cC'⟩) hne x hxn (by rw [Nat.testBit_and, hcx, hcx']; rfl)
      refine ((mem_circ2 h.n8).1 hz).2.1 ⟨A, hA, fun i hi => ?_⟩
      have h5 := hzs i hi
      rw [nand_testBit_bit, Nat.testBit_or] at h5
      simp only [Bool.and_eq_true, Bool.or_eq_true, Bool.not_eq_true', decide_eq_false_iff_not] at h5
      have h6 : (A ||| bit x).testBit i = true := h5.1.elim (cs i) (cs2 i)
      rw [or_bit_testBit] at h6
      simp only [Bool.or_eq_true, decide_eq_true_eq] at h6
      exact h6.elim id (fun e => absurd e h5.2)
    have hyy : (A ||| bit x).testBit y = true := by rw [or_bit_testBit, yA]; rfl
    have hz2 := sz_less (show y < 8 by have := h.n8; omega) hyy
    have hmem : nand (A ||| bit x) (bit y) ∈ L := mem_of_ind_sz h.fam (nat8 h.n8 (nand_lt_bit _ hAx)) hIn (by rw [hzA, h.fam.eq A hA] at hz2; omega)
    refine ⟨y, ?_, ?_, mem_those.2 ⟨orM_bit (nand_lt_bit _ a1) yn, memB_iff.2 ?_⟩⟩
    · have : B.testBit y = (decide (y < n) && !B'.testBit y) := by rw [← hBe, nand_all_testBit]
      rw [y2] at this
      simpa [yn] using this.symm
    · have : A.testBit y = (decide (y < n) && !A'.testBit y) := by rw [← hAe, nand_all_testBit]
      rw [yA] at this
      simpa [yn] using this.symm
    · have e : nand (bit n - 1) (nand A' (bit x) ||| bit y) = nand (A ||| bit x) (bit y) := Nat.eq_of_testBit_eq (fun i => by
        rw [← hAe]
        simp only [nand_testBit, Nat.testBit_or, testBit_bit, testBit_all]
        by_cases c1 : x = i
        · subst c1
          have : ¬ y = x := fun e => hyx e.symm
          simp [this, hxn]
        · by_cases c2 : y = i
          · subst c2; simp
          · simp [c1, c2])
      rw [e]; exact hmem

/-! ### hyperplanes -/
/-- in no set of a family -/
def SP (l : List Nat) (s : Nat) : Bool := l.all (fun h => !decide (s ||| h = h))
theorem SP_iff {l : List Nat} {s : Nat} : SP l s = true ↔ ∀ h, h ∈ l → ¬ sub s h := by
  unfold SP
  rw [List.all_eq_true]
  constructor
  · intro h c hc hs
    have := h c hc
    rw [decide_eq_true (or_eq_sub.2 hs)] at this
    cases this
  · intro h c hc
    rw [decide_eq_false (fun e => h c hc (or_eq_sub.1 e))]; rfl
/-- the least of these -/
def spL (n : Nat) (l : List Nat) : List Nat := those n (leastB (those n (SP l)))
theorem mem_spL {n : Nat} {l : List Nat} {s : Nat} : s ∈ spL n l ↔ s < bit n ∧ SP l s = true ∧ ∀ t, t < bit n → SP l t = true → sub t s → t = s := by
  unfold spL
  rw [mem_those, leastB_iff]
  constructor
  · rintro ⟨h1, h2, h3⟩
    exact ⟨h1, (mem_those.1 h2).2, fun t ht hS hsub => h3 t (mem_those.2 ⟨ht, hS⟩) hsub⟩
  · rintro ⟨h1, h2, h3⟩
    exact ⟨h1, mem_those.2 ⟨h1, h2⟩, fun x hx hsub => h3 x (mem_those.1 hx).1 (mem_those.1 hx).2 hsub⟩
/-- what hyperplanes must have -/
structure HAx (n : Nat) (l : List Nat) : Prop where
  all : bit n - 1 ∉ l
  anti : ∀ a, a ∈ l → ∀ b, b ∈ l → a ≠ b → ¬ sub a b
  join : ∀ a, a ∈ l → ∀ b, b ∈ l → a ≠ b → ∀ k, k < n → (a ||| b).testBit k = false → ∃ x, x ∈ l ∧ sub (a &&& b ||| bit k) x
theorem sub_co {n a b : Nat} (ha : a < bit n) (hb : b < bit n) : sub (nand (bit n - 1) a) (nand (bit n - 1) b) ↔ sub b a := by
  constructor
  · intro h i hi
    have hn := bitM_in hb hi
    cases e : a.testBit i
    · have := h i (by rw [nand_all_testBit, e]; simp [hn])
      rw [nand_all_testBit, hi] at this
      simp at this
    · rfl
  · intro h i hi
    rw [nand_all_testBit] at hi ⊢
    simp only [Bool.and_eq_true, decide_eq_true_eq, Bool.not_eq_true'] at hi ⊢
    refine ⟨hi.1, ?_⟩
    cases e : b.testBit i
    · rfl
    · rw [h i e] at hi; cases hi.2
theorem SP_co {n s : Nat} {l : List Nat} (hs : s < bit n) (hlt : ∀ c, c ∈ l → c < bit n) : SP l s = PC (l.map (nand (bit n - 1))) (nand (bit n - 1) s) := by
  rw [Bool.eq_iff_iff, SP_iff, PC_iff]
  constructor
  · intro h c hc hsub
    obtain ⟨a, ha, rfl⟩ := List.mem_map.1 hc
    exact h a ha ((sub_co (hlt a ha) hs).1 hsub)
  · intro h a ha hsub
    exact h _ (List.mem_map.2 ⟨a, ha, rfl⟩) ((sub_co (hlt a ha) hs).2 hsub)
theorem HAx.co {n : Nat} {l : List Nat} (h : HAx n l) (hlt : ∀ c, c ∈ l → c < bit n) : CAx n (l.map (nand (bit n - 1))) where
  nz := fun c hc e => by
    obtain ⟨a, ha, rfl⟩ := List.mem_map.1 hc
    have : a = bit n - 1 := by
      have h1 := co_co (hlt a ha)
      rw [e] at h1
      rw [← h1]
      exact Nat.eq_of_testBit_eq (fun i => by rw [nand_testBit]; simp)
    exact h.all (this ▸ ha)
  anti := fun x hx y hy hne hsub => by
    obtain ⟨a, ha, rfl⟩ := List.mem_map.1 hx
    obtain ⟨b, hb, rfl⟩ := List.mem_map.1 hy
    exact h.anti b hb a ha (fun e => hne (by rw [e])) ((sub_co (hlt a ha) (hlt b hb)).1 hsub)
  elim := fun x hx y hy hne k hk hkk => by
    obtain ⟨a, ha, rfl⟩ := List.mem_map.1 hx
    obtain ⟨b, hb, rfl⟩ := List.mem_map.1 hy
    rw [Nat.testBit_and, nand_all_testBit, nand_all_testBit] at hkk
    simp only [Bool.and_eq_true, decide_eq_true_eq, Bool.not_eq_true'] at hkk
    obtain ⟨z, hz, hzs⟩ := h.join a ha b hb (fun e => hne (by rw [e])) k hk (by rw [Nat.testBit_or, hkk.1.2, hkk.2.2]; rfl)
    refine ⟨_, List.mem_map.2 ⟨z, hz, rfl⟩, fun i hi => ?_⟩
    rw [nand_all_testBit] at hi
    simp only [Bool.and_eq_true, decide_eq_true_eq, Bool.not_eq_true'] at hi
    have h1 : (a &&& b ||| bit k).testBit i = false := by
      cases e : (a &&& b ||| bit k).testBit i
      · rfl
      · rw [hzs i e] at hi; cases hi.2
    rw [or_bit_testBit, Nat.testBit_and] at h1
    simp only [Bool.or_eq_false_iff, Bool.and_eq_false_iff, decide_eq_false_iff_not] at h1
    rw [nand_testBit_bit, Nat.testBit_or, nand_all_testBit, nand_all_testBit]
    rcases h1.1 with h2 | h2
    · simp [hi.1, h2, h1.2]
    · simp [hi.1, h2, h1.2]
/-- each spanning set holds a least one -/
theorem sp_least {n : Nat} {l : List Nat} (hn : n ≤ 8) : ∀ d s, s < bit n → sz s = d → SP l s = true → ∃ b, b ∈ spL n l ∧ sub b s := by
  intro d
  induction d using Nat.strongRecOn with
  | ind d ih =>
  intro s hs hd hS
  by_cases hm : ∀ t, t < bit n → SP l t = true → sub t s → t = s
  · exact ⟨s, mem_spL.2 ⟨hs, hS, hm⟩, sub_refl s⟩
  · have : ∃ t, t < bit n ∧ SP l t = true ∧ sub t s ∧ t ≠ s := by
      apply Classical.byContradiction
      intro hc
      exact hm (fun t h1 h2 h3 => Classical.byContradiction (fun h4 => hc ⟨t, h1, h2, h3, h4⟩))
    obtain ⟨t, h1, h2, h3, h4⟩ := this
    have hlt : sz t < sz s := by
      have := sz_mono h3
      rcases Nat.lt_or_eq_of_le this with h | h
      · exact h
      · exact absurd (eq_of_sub_sz (nat8 hn h1) (nat8 hn hs) h3 (by omega)) h4
    obtain ⟨b, hb, hbs⟩ := ih _ (by omega) t h1 rfl h2
    exact ⟨b, hb, sub_trans hbs h3⟩
theorem noSpan_sp {n : Nat} {l : List Nat} (hn : n ≤ 8) {s : Nat} (hs : s < bit n) : NoSpan (spL n l) s ↔ ∃ h, h ∈ l ∧ sub s h := by
  constructor
  · intro hN
    apply Classical.byContradiction
    intro hc
    obtain ⟨b, hb, hbs⟩ := sp_least (l := l) hn _ s hs rfl (SP_iff.2 (fun h hh hsub => hc ⟨h, hh, hsub⟩))
    exact hN b hb hbs
  · rintro ⟨h, hh, hsub⟩ b hb hbs
    exact SP_iff.1 (mem_spL.1 hb).2.1 h hh (sub_trans hbs hsub)
/-- the greatest that do not span are the family, if none of it lies in another -/
theorem hyp_sp {n : Nat} {l : List Nat} (hn : n ≤ 8) (hlt : ∀ c, c ∈ l → c < bit n) (ha : ∀ a, a ∈ l → ∀ b, b ∈ l → a ≠ b → ¬ sub a b) {s : Nat} (hs : s < bit n) : (NoSpan (spL n l) s ∧ ∀ t, t < bit n → NoSpan (spL n l) t → sub s t → t = s) ↔ s ∈ l := by
  constructor
  · rintro ⟨h1, h2⟩
    obtain ⟨h, hh, hsub⟩ := (noSpan_sp hn hs).1 h1
    have := h2 h (hlt h hh) ((noSpan_sp hn (hlt h hh)).2 ⟨h, hh, sub_refl h⟩) hsub
    rw [← this]; exact hh
  · intro hm
    refine ⟨(noSpan_sp hn hs).2 ⟨s, hm, sub_refl s⟩, fun t ht hN hst => ?_⟩
    obtain ⟨h, hh, hsub⟩ := (noSpan_sp hn ht).1 hN
    have e : s = h := Classical.byContradiction (fun hne => ha s hm h hh hne (sub_trans hst hsub))
    subst e
    exact sub_antisymm hsub hst
theorem hypP_iff2 {n r : Nat} {L : List Nat} (h : MatL n L r) {s : Nat} (hs : s < bit n) : hypP n L s = true ↔ (NoSpan L s ∧ ∀ t, t < bit n → NoSpan L t → sub s t → t = s) := by
  rw [hypP_iff]
  exact hyper_iff h.n8 h.ne h.fam h.lt hs
/-- what does not span lies in a greatest such set -/
theorem hyp_over {n : Nat} {L : List Nat} (hn : n ≤ 8) : ∀ d t, t < bit n → n - sz t = d → NoSpan L t → ∃ h, h < bit n ∧ sub t h ∧ NoSpan L h ∧ ∀ u, u < bit n → NoSpan L u → sub h u → u = h := by
  intro d
  induction d using Nat.strongRecOn with
  | ind d ih =>
  intro t ht hd hN
  by_cases hm : ∀ u, u < bit n → NoSpan L u → sub t u → u = t
  · exact ⟨t, ht, sub_refl t, hN, hm⟩
  · have : ∃ u, u < bit n ∧ NoSpan L u ∧ sub t u ∧ u ≠ t := by
      apply Classical.byContradiction
      intro hc
      exact hm (fun u h1 h2 h3 => Classical.byContradiction (fun h4 => hc ⟨u, h1, h2, h3, h4⟩))
    obtain ⟨u, h1, h2, h3, h4⟩ := this
    have hlt : sz t < sz u := by
      have := sz_mono h3
      rcases Nat.lt_or_eq_of_le this with h | h
      · exact h
      · exact absurd (eq_of_sub_sz (nat8 hn ht) (nat8 hn h1) h3 (by omega)).symm h4
    have hzn := sz_le_m hn h1
    obtain ⟨h, a1, a2, a3, a4⟩ := ih _ (by omega) u h1 rfl h2
    exact ⟨h, a1, sub_trans h3 a2, a3, a4⟩
/-- THE LAW OF HYPERPLANES -/
theorem hyper_law {n : Nat} {l : List Nat} (hn : n ≤ 8) (hl : l = those n (memB l)) : HAx n l ↔ (∃ r, MatL n (spL n l) r) ∧ those n (hypP n (spL n l)) = l := by
  have hlt : ∀ c, c ∈ l → c < bit n := fun c hc => by rw [hl] at hc; exact (mem_those.1 hc).1
  constructor
  · intro h
    have hC := h.co hlt
    have hlt2 : ∀ c, c ∈ l.map (nand (bit n - 1)) → c < bit n := fun c hc => by
      obtain ⟨a, _, rfl⟩ := List.mem_map.1 hc
      exact nand_all_lt n a
    have hX := hC.ind hn hlt2
    have hD := hX.mat.dual
    have e : spL n l = those n (fun s => memB (big n (PC (l.map (nand (bit n - 1))))) (nand (bit n - 1) s)) := by
      unfold spL
      refine those_mem_eq (fun s hs => ?_)
      have h1 : leastB (those n (SP l)) s = true ↔ s ∈ spL n l := by unfold spL; rw [mem_those]; exact ⟨fun x => ⟨hs, x⟩, fun x => x.2⟩
      rw [h1, mem_spL, memB_iff]
      have hcs := nand_all_lt n s
      constructor
      · rintro ⟨_, h2, h3⟩
        rw [SP_co hs hlt] at h2
        obtain ⟨b, hb, hsb⟩ := (hX.ind_iff hcs).2 h2
        obtain ⟨b1, b2, _⟩ := mem_big.1 hb
        have h4 := h3 (nand (bit n - 1) b) (nand_all_lt n b) (by rw [SP_co (nand_all_lt n b) hlt, co_co b1]; exact b2) (by
          have := (sub_co b1 hcs).2 hsb
          rwa [co_co hs] at this)
        rw [← h4, co_co b1]; exact hb
      · intro hm
        obtain ⟨b1, b2, b3⟩ := mem_big.1 hm
        refine ⟨hs, by rw [SP_co hs hlt]; exact b2, fun t ht hS hts => ?_⟩
        rw [SP_co ht hlt] at hS
        have h5 := bigR_ge (nand_all_lt n t) hS
        have h6 : sub (nand (bit n - 1) s) (nand (bit n - 1) t) := (sub_co hs ht).2 hts
        have h7 : nand (bit n - 1) s = nand (bit n - 1) t := eq_of_sub_sz (nat8 hn hcs) (nat8 hn (nand_all_lt n t)) h6 (by omega)
        rw [← co_co ht, ← h7, co_co hs]
    have hM : MatL n (spL n l) (n - bigR n (PC (l.map (nand (bit n - 1))))) := by rw [e]; exact hD
    refine ⟨⟨_, hM⟩, ?_⟩
    conv => rhs; rw [hl]
    refine those_mem_eq (fun s hs => ?_)
    rw [hypP_iff2 hM hs, memB_iff]
    exact hyp_sp hn hlt h.anti hs
  · rintro ⟨⟨r, hM⟩, he⟩
    have hmem : ∀ s, s < bit n → (s ∈ l ↔ (rk (spL n l) s + 1 = rk (spL n l) (bit n - 1) ∧ Flat n (spL n l) s)) := fun s hs => by
      rw [← hypP_iff]
      have : hypP n (spL n l) s = true ↔ s ∈ those n (hypP n (spL n l)) := by rw [mem_those]; exact ⟨fun x => ⟨hs, x⟩, fun x => x.2⟩
      rw [this, he]
    have hmax : ∀ s, s < bit n → (s ∈ l ↔ (NoSpan (spL n l) s ∧ ∀ t, t < bit n → NoSpan (spL n l) t → sub s t → t = s)) := fun s hs => (hmem s hs).trans (hyper_iff hn hM.ne hM.fam hM.lt hs)
    have hR := hM.rkM
    have hfull := rk_all hM.ne hM.fam hM.lt
    refine ⟨fun hc => ?_, fun a ha b hb hne hsub => ?_, fun a ha b hb hne k hk hkk => ?_⟩
    · have := ((hmem _ (all_lt n)).1 hc).1
      omega
    · have h1 := ((hmax a (hlt a ha)).1 ha).2 b (hlt b hb) (((hmax b (hlt b hb)).1 hb).1) hsub
      exact hne h1.symm
    · have ha' := hlt a ha
      have hb' := hlt b hb
      obtain ⟨a1, a2⟩ := (hmem a ha').1 ha
      obtain ⟨b1, b2⟩ := (hmem b hb').1 hb
      have hab : ¬ sub a b := fun hsub => hne (((hmax a ha').1 ha).2 b hb' (((hmax b hb').1 hb).1) hsub).symm
      obtain ⟨e, e1, e2⟩ := exists_diff hab
      have hen := bitM_in ha' e1
      have hI : a &&& b < bit n := and_lt_bit b ha'
      have h1 : rk (spL n l) (a &&& b ||| bit e) ≤ rk (spL n l) a := rk_mono hM.ne (fun i hi => by
        rw [or_bit_testBit, Nat.testBit_and] at hi
        simp only [Bool.or_eq_true, Bool.and_eq_true, decide_eq_true_eq] at hi
        rcases hi with h3 | h3
        · exact h3.1
        · rw [← h3]; exact e1)
      have h2 : rk (spL n l) (a &&& b ||| bit e) ≠ rk (spL n l) (a &&& b) := fun h3 => by
        have := hR.clos (a &&& b) b e hI hb' hen (fun i hi => by rw [Nat.testBit_and] at hi; simp at hi; exact hi.2) h3
        exact b2 e hen e2 this
      have h3 := (hR.step (a &&& b) e hI hen).1
      have h4 := (hR.step (a &&& b) k hI hk).2
      have hN : NoSpan (spL n l) (a &&& b ||| bit k) := (noSpan_iff hM.ne hM.fam _ (nat8 hn (orM_bit hI hk))).2 (by omega)
      obtain ⟨x, x1, x2, x3, x4⟩ := hyp_over hn _ _ (orM_bit hI hk) rfl hN
      exact ⟨x, (hmax x x1).2 ⟨x3, x4⟩, x2⟩
end Go.Proofs.Ytmcffbmhkbijlaa

namespace Go.Proofs.Ytmcffbmhkbijlaa
open Go.RowKit
set_option linter.unusedVariables false

set_option maxRecDepth 100000 in
set_option maxHeartbeats 4000000 in
theorem c_ofIndTell {B : Nat} {W : World} (u : Later B W) (L : List Nat) (hr : rising (ints L)) (hlen : L.length ≤ 4611686018427387904) (cap g : Nat) (a : Option Addr) (s : Nat) (h : IntsAt B W a (ints L)) (hg : g < B) (hbox : W.cell? ⟨g, 0, none⟩ = some (.slice a (ints L).length cap)) :
    Calls Try.prog 20 #[.int .i64 s, .pointer (some ⟨g, 0, none⟩)] u.val (Ret B W (.bool (memB L s))) := by
  have q1 : u.val.cell? ⟨g, 0, none⟩ = some (.slice a (ints L).length cap) := by rw [u.cell hg, hbox]
  have KH : Hid (Calls Try.prog 21 #[.slice a (ints L).length cap, .int .i64 s] u.val (RetP B W (bsPost (ints L) s))) := Lib.hid (c_bsearch u (ints L) (s : Int) a cap h (by rw [ints_len]; omega) hr)
  have HD : Hid (decide ((s : Int) ∈ ints L) = memB L s) := Lib.hid (by unfold memB; simp only [mem_ints])
  clear h hbox
  go_enter Try.func20, Try.ntmps20
  go_wp2_with (first | (go_at_call 21; (with_reducible refine (KH.out).mono ?_); rintro e _ ⟨_, rfl, ⟨i, rfl⟩, v2, rfl⟩; rw [HD.out]) | fail)
  go_ret
  exact Ret.mk v2 rfl

theorem and_eq_sub {c s : Nat} : c &&& s = c ↔ sub c s := by
  constructor
  · intro h i hi
    rw [← h, Nat.testBit_and] at hi
    simp at hi; exact hi.2
  · intro h
    exact Nat.eq_of_testBit_eq (fun i => by
      rw [Nat.testBit_and]
      cases e : c.testBit i
      · rfl
      · rw [h i e]; rfl)

set_option maxRecDepth 100000 in
set_option maxHeartbeats 4000000 in
theorem c_ofCircIn {B : Nat} {W : World} (u : Later B W) (c s g : Nat) (hc : c < 256) (hs : s < 256) (hg : g < B) (hbox : W.cell? ⟨g, 0, none⟩ = some (.int .i64 s)) :
    Calls Try.prog 25 #[.int .i64 c, .pointer (some ⟨g, 0, none⟩)] u.val (Ret B W (.bool (decide (c ||| s = s)))) := by
  have q1 : u.val.cell? ⟨g, 0, none⟩ = some (.int .i64 s) := by rw [u.cell hg, hbox]
  have o1 := i64_and c s (by omega) (by omega)
  have hd : (((c &&& s : Nat) : Int) == (c : Int)) = decide (c ||| s = s) := by
    rw [Bool.eq_iff_iff, beq_iff_eq, decide_eq_true_eq, or_eq_sub, ← and_eq_sub]
    omega
  generalize decide (c ||| s = s) = d at *
  generalize c &&& s = z at *
  go_enter Try.func25, Try.ntmps25
  go_wp2
  go_ret
  exact Ret.mk u (by rw [← hd]; rfl)

set_option maxRecDepth 100000 in
set_option maxHeartbeats 4000000 in
theorem c_ofHypIn {B : Nat} {W : World} (u : Later B W) (c s g : Nat) (hc : c < 256) (hs : s < 256) (hg : g < B) (hbox : W.cell? ⟨g, 0, none⟩ = some (.int .i64 s)) :
    Calls Try.prog 30 #[.int .i64 c, .pointer (some ⟨g, 0, none⟩)] u.val (Ret B W (.bool (decide (s ||| c = c)))) := by
  have q1 : u.val.cell? ⟨g, 0, none⟩ = some (.int .i64 s) := by rw [u.cell hg, hbox]
  have o1 := i64_and s c (by omega) (by omega)
  have hd : (((s &&& c : Nat) : Int) == (s : Int)) = decide (s ||| c = c) := by
    rw [Bool.eq_iff_iff, beq_iff_eq, decide_eq_true_eq, or_eq_sub, ← and_eq_sub]
    omega
  generalize decide (s ||| c = c) = d at *
  generalize s &&& c = z at *
  go_enter Try.func30, Try.ntmps30
  go_wp2
  go_ret
  exact Ret.mk u (by rw [← hd]; rfl)

theorem any_ints (L : List Nat) (p : Nat → Bool) : (ints L).any (fun c => p c.toNat) = L.any p := by
  unfold ints
  rw [List.any_map]
  rfl
set_option maxRecDepth 100000 in
set_option maxHeartbeats 4000000 in
theorem c_ofCircTell {B : Nat} {W : World} (u : Later B W) (L : List Nat) (h8 : ∀ x, x ∈ L → x < 256) (hlen : L.length ≤ 4611686018427387904) (cap g : Nat) (a : Option Addr) (s : Nat) (hs : s < 256) (h : IntsAt B W a (ints L)) (hg : g < B) (hbox : W.cell? ⟨g, 0, none⟩ = some (.slice a (ints L).length cap)) :
    Calls Try.prog 23 #[.int .i64 s, .pointer (some ⟨g, 0, none⟩)] u.val (Ret B W (.bool (PC L s))) := by
  have q1 : ∀ w : Later (u.val.alloc (.cells #[.int .i64 s] 3)).heap.size (u.val.alloc (.cells #[.int .i64 s] 3)), w.val.cell? ⟨g, 0, none⟩ = some (.slice a (ints L).length cap) := fun w => by
    have := ((u.alloc (.cells #[.int .i64 s] 3)).up w).cell (a := ⟨g, 0, none⟩) hg
    rw [hbox] at this
    exact this
  have R : RowAt1 (u.val.alloc (.cells #[.int .i64 s] 3)) u.val.heap.size 3 (.int .i64 s) := heap_alloc_new _ _
  have hgY : u.val.heap.size < (u.val.alloc (.cells #[.int .i64 s] 3)).heap.size := R.lt
  have KH : Hid (Calls Try.prog 24 #[.slice a (ints L).length cap, .func (.func 25) #[] #[.pointer (some ⟨u.val.heap.size, 0, none⟩)]] (u.val.alloc (.cells #[.int .i64 s] 3)) (Ret (u.val.alloc (.cells #[.int .i64 s] 3)).heap.size (u.val.alloc (.cells #[.int .i64 s] 3)) (.bool (!PC L s)))) := Lib.hid (by
    have h1 := c_containsFunc (Later.self (u.val.alloc (.cells #[.int .i64 s] 3))) (ints L) a cap (h.to (u.alloc _)) (by rw [ints_len]; omega) 25 #[.pointer (some ⟨u.val.heap.size, 0, none⟩)] (fun c => decide (c.toNat ||| s = s)) (fun _ _ => by kernel_rfl) (fun v i hi => by
      rw [ints_len] at hi
      rw [ints_getD]
      exact c_ofCircIn v (L.getD i 0) s u.val.heap.size (h8 _ (by simp [hi])) hs hgY R.c0)
    have e : (ints L).any (fun c => decide (c.toNat ||| s = s)) = !PC L s := by
      rw [any_ints L (fun c => decide (c ||| s = s))]
      unfold PC
      rw [List.all_eq_not_any_not]
      simp
    rw [e] at h1
    exact h1)
  have hp1 : ∀ (args : Array Value) (w : World), (callFunc 25 args).run Try.prog w = .ok (.enter 25 args) w := fun _ _ => by kernel_rfl
  have HV : Hid (∀ v : Later (u.val.alloc (.cells #[.int .i64 s] 3)).heap.size (u.val.alloc (.cells #[.int .i64 s] 3)), ∃ w : Later B W, w.val = v.val) := Lib.hid (fun v => ⟨(u.alloc _).up v, rfl⟩)
  have q0 := q1 (Later.self _)
  clear h hbox R
  generalize PC L s = d at *
  go_enter Try.func23, Try.ntmps23
  go_upto_region 1 with fail
  generalize (u.val.alloc (.cells #[.int .i64 s] 3)) = Y at *
  generalize u.val.heap.size = gb at *
  dsimp only [Later.self] at q0
  go_wp2_with (first | (go_at_call 24; (with_reducible refine (KH.out).mono ?_); rintro e _ ⟨rfl, v2, rfl⟩) | fail)
  go_ret
  exact Ret.of (HV.out v2) (by simp)

set_option maxRecDepth 100000 in
set_option maxHeartbeats 4000000 in
theorem c_ofRankTell {B : Nat} {W : World} (u : Later B W) (R : List Int) (cap g : Nat) (a : Option Addr) (s : Nat) (hs : s < 256) (hsl : s < R.length) (h : IntsAt B W a R) (hg : g < B) (hbox : W.cell? ⟨g, 0, none⟩ = some (.slice a R.length cap)) :
    Calls Try.prog 45 #[.int .i64 s, .pointer (some ⟨g, 0, none⟩)] u.val (Ret B W (.bool (PR (fun s => R.getD s 0) s))) := by
  have q1 : ∀ w : Later B W, w.val.cell? ⟨g, 0, none⟩ = some (.slice a R.length cap) := fun w => by rw [w.cell hg, hbox]
  obtain ⟨b, off, rfl, hbB, hcell⟩ := h.at (k := s) hsl
  have c0 : ∀ w : Later B W, w.val.cell? ⟨b, off + s, none⟩ = some (.int .i64 (R.getD s 0)) := fun w => hcell w s hsl
  have KS : Hid (∀ w : Later B W, Calls Try.prog 46 #[.int .i64 s] w.val (Ret B W (.int .i64 (sz s)))) := Lib.hid (fun w => c_size_axioms w s hs)
  have hd : (R.getD s 0 == (sz s : Int)) = PR (fun s => R.getD s 0) s := by
    unfold PR
    rw [Bool.eq_iff_iff, beq_iff_eq, decide_eq_true_eq]
  clear h hbox hcell
  generalize R.getD s 0 = r at *
  generalize PR (fun s => R.getD s 0) s = d at *
  generalize (sz s : Int) = z at *
  go_enter Try.func45, Try.ntmps45
  go_upto_region 1 with fail
  refine wp_region_later u (by kernel_rfl) (by kernel_rfl) (fun _ => ?_)
  repeat (first | go_big_quiet_step (((go_at_call 46; exact (KS.out _)))) | (refine wpQuiet_step (fun K hK => ?_); go_simp; refine ⟨_, fun _ => rfl, ?_⟩; refine hK _ ?_; clear hK K))
  refine wpQuiet_nil ?_
  intro u
  go_wp2
  go_ret
  exact Ret.mk u (by rw [← hd]; rfl)
end Go.Proofs.Ytmcffbmhkbijlaa
