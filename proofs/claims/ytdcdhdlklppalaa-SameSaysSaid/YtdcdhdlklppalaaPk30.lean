
/-
  minors.Dual.
  The least and the greatest sets of a family, its blocker and its shadow, GALE's order: plainly.
  A family, opened: its sets as whole numbers, rising, few.
-/
import Derived.Test.YtdcdhdlklppalaaPk29
import Derived.Test.YtdcdhdlklppalaaPk05
import Derived.Test.YtdcdhdlklppalaaPk12
import Derived.Test.YtdcdhdlklppalaaPk27
namespace Go.Proofs.Ytdcdhdlklppalaa
open Go.RowKit
set_option linter.unusedVariables false

/-- a matroid whose bases lie in a row of the call's own, and an error -/
def MatTO (B : Nat) (n : Int) (xs : List Int) (er : Int) (v : Value) (w : World) : Prop := ∃ ad cp, v = .tuple #[.agg #[.int .i64 n, .slice ad xs.length cp], .int .i64 er] ∧ Own B w ad cp xs
theorem MatTO.no {B : Nat} {e : Int} {w : World} : MatTO B 0 [] e (.tuple #[.agg #[.int .i64 0, .slice none 0 0], .int .i64 e]) w := ⟨none, 0, rfl, Own.nil _ _⟩
theorem take_map_step (f : Nat → Nat) (L : List Nat) {k : Nat} (hk : k < L.length) : (L.take (k + 1)).map f = (L.take k).map f ++ [f (L.getD k 0)] := by
  rw [List.take_add_one, List.getElem?_eq_getElem hk, List.map_append]
  have : L.getD k 0 = L[k] := by simp [hk]
  rw [this]
  rfl

end Go.Proofs.Ytdcdhdlklppalaa

namespace Go.Proofs.Ytdcdhdlklppalaa
set_option linter.unusedVariables false

theorem and_eq_iff {a b : Nat} : a &&& b = a ↔ sub a b := by
  constructor
  · intro h i hi
    rw [← h, Nat.testBit_and] at hi
    simp at hi; exact hi.2
  · exact and_eq_left
theorem ints_inj {a b : List Nat} (h : ints a = ints b) : a = b := by
  unfold ints at h
  exact (List.map_inj_right (fun x y h => by omega)).1 h
theorem nat_ext {a b : List Nat} (ha : a.Pairwise (· < ·)) (hb : b.Pairwise (· < ·)) (h : ∀ x, x ∈ a ↔ x ∈ b) : a = b := by
  refine ints_inj (pw_ext ?_ ?_ (fun x => ?_))
  · unfold ints; rw [List.pairwise_map]; exact ha.imp (fun h => by omega)
  · unfold ints; rw [List.pairwise_map]; exact hb.imp (fun h => by omega)
  · rw [mem_ints2, mem_ints2]
    constructor
    · rintro ⟨n, h1, e⟩; exact ⟨n, (h n).1 h1, e⟩
    · rintro ⟨n, h1, e⟩; exact ⟨n, (h n).2 h1, e⟩
theorem those_pwN (m : Nat) (p : Nat → Bool) : (those m p).Pairwise (· < ·) := List.Pairwise.filter p List.pairwise_lt_range

/-! ### the least and the greatest -/
def loneB (L : List Nat) (s : Nat) : Bool := !(L.any (fun t => decide (t ≠ s ∧ t &&& s = t)))
def topB (L : List Nat) (s : Nat) : Bool := !(L.any (fun t => decide (t ≠ s ∧ t &&& s = s)))
def filtTo (p : Nat → Bool) (L : List Nat) (k : Nat) : List Nat := (L.take k).filter p
theorem filtTo_step (p : Nat → Bool) (L : List Nat) {k : Nat} (hk : k < L.length) : filtTo p L (k + 1) = if p (L.getD k 0) = true then filtTo p L k ++ [L.getD k 0] else filtTo p L k := by
  unfold filtTo
  rw [List.take_add_one, List.getElem?_eq_getElem hk, List.filter_append]
  have : L.getD k 0 = L[k] := by simp [hk]
  rw [this]
  by_cases h : p L[k] = true
  · simp [h]
  · simp [h]
theorem filtTo_len (p : Nat → Bool) (L : List Nat) (k : Nat) : (filtTo p L k).length ≤ L.length := by
  have h1 := List.length_filter_le p (L.take k)
  have h2 := List.length_take_le k L
  have h3 : (L.take k).length ≤ L.length := by simp; omega
  unfold filtTo; omega
theorem filtTo_all (p : Nat → Bool) (L : List Nat) : filtTo p L L.length = L.filter p := by unfold filtTo; rw [List.take_length]
theorem leastB_iff {M : List Nat} {s : Nat} : leastB M s = true ↔ s ∈ M ∧ ∀ x, x ∈ M → sub x s → x = s := by
  unfold leastB
  rw [Bool.and_eq_true, decide_eq_true_eq, List.all_eq_true]
  constructor
  · rintro ⟨h1, h2⟩
    refine ⟨h1, fun x hx hs => ?_⟩
    have := h2 x hx
    simp [or_eq_iff.2 hs] at this
    exact this
  · rintro ⟨h1, h2⟩
    refine ⟨h1, fun x hx => ?_⟩
    by_cases e : x = s
    · simp [e]
    · have : ¬ x ||| s = s := fun h => e (h2 x hx (or_eq_iff.1 h))
      simp [e, this]
theorem loneB_iff {L : List Nat} {s : Nat} : loneB L s = true ↔ ∀ x, x ∈ L → sub x s → x = s := by
  unfold loneB
  rw [Bool.not_eq_true', Bool.eq_false_iff, ne_eq, List.any_eq_true]
  constructor
  · intro h x hx hs
    exact Classical.byContradiction fun e => h ⟨x, hx, by simpa using ⟨e, and_eq_iff.2 hs⟩⟩
  · rintro h ⟨x, hx, e⟩
    have e := of_decide_eq_true e
    exact e.1 (h x hx (and_eq_iff.1 e.2))
theorem topB_iff {L : List Nat} {s : Nat} : topB L s = true ↔ ∀ x, x ∈ L → sub s x → x = s := by
  unfold topB
  rw [Bool.not_eq_true', Bool.eq_false_iff, ne_eq, List.any_eq_true]
  constructor
  · intro h x hx hs
    exact Classical.byContradiction fun e => h ⟨x, hx, decide_eq_true ⟨e, by rw [Nat.and_comm]; exact and_eq_iff.2 hs⟩⟩
  · rintro h ⟨x, hx, e⟩
    have e := of_decide_eq_true e
    exact e.1 (h x hx (and_eq_iff.1 (by rw [Nat.and_comm]; exact e.2)))
theorem filt_least {m : Nat} {L : List Nat} (hr : L.Pairwise (· < ·)) (hlt : ∀ b, b ∈ L → b < bit m) : L.filter (loneB L) = those m (leastB L) :=
  nat_ext (hr.filter _) (those_pwN _ _) (fun x => by
    rw [List.mem_filter, mem_those, loneB_iff, leastB_iff]
    constructor
    · rintro ⟨h1, h2⟩; exact ⟨hlt x h1, h1, h2⟩
    · rintro ⟨_, h1, h2⟩; exact ⟨h1, h2⟩)
theorem filt_most {m : Nat} {L : List Nat} (hr : L.Pairwise (· < ·)) (hlt : ∀ b, b ∈ L → b < bit m) : L.filter (topB L) = those m (mostB L) :=
  nat_ext (hr.filter _) (those_pwN _ _) (fun x => by
    rw [List.mem_filter, mem_those, topB_iff, mostB_iff]
    constructor
    · rintro ⟨h1, h2⟩; exact ⟨hlt x h1, h1, h2⟩
    · rintro ⟨_, h1, h2⟩; exact ⟨h1, h2⟩)
/-- below each set of a family lies a least one -/
theorem least_below {V : List Nat} : ∀ k v, v ≤ k → v ∈ V → ∃ b, leastB V b = true ∧ sub b v
  | k, v, hk, hv => by
    by_cases h : ∀ x, x ∈ V → sub x v → x = v
    · exact ⟨v, leastB_iff.2 ⟨hv, h⟩, fun i h => h⟩
    · simp only [Classical.not_forall] at h
      obtain ⟨x, hx, hs, hne⟩ := h
      have hle := subLe hs
      cases k with
      | zero => omega
      | succ k =>
        obtain ⟨b, h1, h2⟩ := least_below k x (by omega) hx
        exact ⟨b, h1, sub_trans h2 hs⟩
where
  subLe {a b : Nat} (h : sub a b) : a ≤ b := by
    have := or_eq_iff.2 h
    have h2 : a ≤ a ||| b := Nat.left_le_or
    omega
/-- two families, one within the other, that lies above it: the same least sets -/
theorem least_eq {U V : List Nat} (h1 : ∀ u, u ∈ U → u ∈ V) (h2 : ∀ v, v ∈ V → ∃ u, u ∈ U ∧ sub u v) (s : Nat) : leastB U s = true ↔ leastB V s = true := by
  rw [leastB_iff, leastB_iff]
  constructor
  · rintro ⟨hs, h⟩
    refine ⟨h1 s hs, fun x hx hxs => ?_⟩
    obtain ⟨u, hu, hux⟩ := h2 x hx
    have e := h u hu (sub_trans hux hxs)
    subst e
    exact sub_antisymm hxs hux
  · rintro ⟨hs, h⟩
    obtain ⟨u, hu, hus⟩ := h2 s hs
    have e := h u (h1 u hu) hus
    subst e
    exact ⟨hu, fun x hx hxs => h x (h1 x hx) hxs⟩

/-! ### the blocker -/
def meetsB (M : List Nat) (s : Nat) : Bool := M.all (fun x => !decide (s &&& x = 0))
theorem meetsB_iff {M : List Nat} {s : Nat} : meetsB M s = true ↔ ∀ x, x ∈ M → s &&& x ≠ 0 := by
  unfold meetsB
  rw [List.all_eq_true]
  constructor
  · intro h x hx; simpa using h x hx
  · intro h x hx; simpa using h x hx
/-- a set, and each element of another one for it -/
def addTo (b s i : Nat) : List Nat := (elemsTo s i).map (fun j => b ||| bit j)
theorem addTo_step (b s i : Nat) : addTo b s (i + 1) = if s.testBit i = true then addTo b s i ++ [b ||| bit i] else addTo b s i := by
  unfold addTo
  rw [elemsTo_step]
  by_cases h : s.testBit i = true
  · simp [h]
  · simp [h]
theorem addTo_len (b s i : Nat) : (addTo b s i).length ≤ i := by
  have := elemsTo_len s i
  simpa [addTo] using this
def nextOf (m s b : Nat) : List Nat := if b &&& s = 0 then addTo b s m else [b]
def nextTo (m s : Nat) (now : List Nat) (k : Nat) : List Nat := (now.take k).flatMap (nextOf m s)
theorem nextTo_step (m s : Nat) (now : List Nat) {k : Nat} (hk : k < now.length) : nextTo m s now (k + 1) = nextTo m s now k ++ nextOf m s (now.getD k 0) := by
  unfold nextTo
  rw [List.take_add_one, List.getElem?_eq_getElem hk, List.flatMap_append]
  have : now.getD k 0 = now[k] := by simp [hk]
  rw [this]
  simp
theorem nextOf_len (m s b : Nat) (hm : m ≤ 8) : (nextOf m s b).length ≤ 8 := by
  unfold nextOf
  split
  · have := addTo_len b s m; omega
  · simp
theorem nextTo_len (m s : Nat) (hm : m ≤ 8) (now : List Nat) (k : Nat) : (nextTo m s now k).length ≤ 8 * k := by
  induction k with
  | zero => simp [nextTo]
  | succ k ih =>
    by_cases h : k < now.length
    · rw [nextTo_step m s now h, List.length_append]
      have := nextOf_len m s (now.getD k 0) hm
      omega
    · have e : nextTo m s now (k + 1) = nextTo m s now k := by
        unfold nextTo
        rw [List.take_of_length_le (by omega), List.take_of_length_le (by omega)]
      rw [e]; omega
theorem mem_elemsTo {s i j : Nat} : j ∈ elemsTo s i ↔ j < i ∧ s.testBit j = true := by simp [elemsTo]
theorem mem_nextOf {m s b x : Nat} : x ∈ nextOf m s b ↔ (b &&& s ≠ 0 ∧ x = b) ∨ (b &&& s = 0 ∧ ∃ i, i < m ∧ s.testBit i = true ∧ x = b ||| bit i) := by
  unfold nextOf
  by_cases h : b &&& s = 0
  · rw [if_pos h]
    unfold addTo
    rw [List.mem_map]
    constructor
    · rintro ⟨j, hj, rfl⟩
      have := mem_elemsTo.1 hj
      exact .inr ⟨h, j, this.1, this.2, rfl⟩
    · rintro (⟨h1, _⟩ | ⟨_, i, h1, h2, rfl⟩)
      · exact absurd h h1
      · exact ⟨i, mem_elemsTo.2 ⟨h1, h2⟩, rfl⟩
  · rw [if_neg h]
    constructor
    · intro hx; exact .inl ⟨h, by simpa using hx⟩
    · rintro (⟨_, rfl⟩ | ⟨h1, _⟩)
      · simp
      · exact absurd h1 h
theorem mem_nextTo {m s x : Nat} {now : List Nat} : x ∈ nextTo m s now now.length ↔ ∃ b, b ∈ now ∧ x ∈ nextOf m s b := by
  unfold nextTo
  rw [List.take_length, List.mem_flatMap]
theorem nextTo_lt {m s : Nat} {now : List Nat} (hm : m ≤ 8) (h : ∀ b, b ∈ now → b < bit m) {x k : Nat} (hx : x ∈ nextTo m s now k) : x < bit m := by
  unfold nextTo at hx
  obtain ⟨b, hb, hx⟩ := List.mem_flatMap.1 hx
  have hb := h b (List.mem_of_mem_take hb)
  rcases mem_nextOf.1 hx with ⟨_, rfl⟩ | ⟨_, i, hi, _, rfl⟩
  · exact hb
  · exact or_lt_bit hb (bit_lt_bit hi)
/-- what the blocker is behind so many sets -/
def blkTo (m : Nat) (L : List Nat) : Nat → List Nat
  | 0 => [0]
  | k + 1 => those m (leastB (those m (memB (nextTo m (L.getD k 0) (blkTo m L k) (blkTo m L k).length))))
theorem meets_take {L : List Nat} {k : Nat} (hk : k < L.length) {s : Nat} : meetsB (L.take (k + 1)) s = true ↔ meetsB (L.take k) s = true ∧ s &&& L.getD k 0 ≠ 0 := by
  rw [meetsB_iff, meetsB_iff, List.take_add_one, List.getElem?_eq_getElem hk]
  have : L.getD k 0 = L[k] := by simp [hk]
  rw [this]
  constructor
  · intro h
    exact ⟨fun x hx => h x (List.mem_append_left _ hx), h _ (List.mem_append_right _ (by simp))⟩
  · rintro ⟨h1, h2⟩ x hx
    rcases List.mem_append.1 hx with hx | hx
    · exact h1 x hx
    · have : x = L[k] := by simpa using hx
      subst this; exact h2
theorem ne_zero_bit {a b : Nat} (h : a &&& b ≠ 0) : ∃ i, a.testBit i = true ∧ b.testBit i = true :=
  Classical.byContradiction fun hn => h (and_eq_zero_iff.2 (fun i hi => by
    cases c : b.testBit i
    · rfl
    · exact absurd ⟨i, hi, c⟩ hn))
theorem meets_sub {a b x : Nat} (h : a &&& x ≠ 0) (hs : sub a b) : b &&& x ≠ 0 := fun e => by
  obtain ⟨i, h1, h2⟩ := ne_zero_bit h
  have := and_eq_zero_iff.1 e i (hs i h1)
  rw [h2] at this; cases this
theorem meets_bit {b x i : Nat} (hx : x.testBit i = true) : (b ||| bit i) &&& x ≠ 0 := fun e => by
  have := and_eq_zero_iff.1 e i (by rw [or_bit_testBit]; simp)
  rw [hx] at this; cases this
theorem blk_is {m : Nat} (hm : m ≤ 8) {L : List Nat} (hL : ∀ b, b ∈ L → b < bit m) : ∀ k, k ≤ L.length → blkTo m L k = those m (leastB (those m (meetsB (L.take k))))
  | 0, _ => by
    have hb := bit_le m hm
    refine nat_ext (List.pairwise_singleton _ _) (those_pwN _ _) (fun x => ?_)
    rw [mem_those, leastB_iff]
    have h0 : ∀ y, y ∈ those m (meetsB (L.take 0)) ↔ y < bit m := fun y => by
      rw [mem_those, meetsB_iff]
      exact ⟨fun h => h.1, fun h => ⟨h, fun x hx => by simp at hx⟩⟩
    constructor
    · intro hx
      have : x = 0 := by simpa [blkTo] using hx
      subst this
      refine ⟨by omega, (h0 0).2 (by omega), fun y hy hs => ?_⟩
      exact sub_antisymm hs (fun i hi => by simp at hi)
    · rintro ⟨_, _, h⟩
      have := h 0 ((h0 0).2 (by omega)) (fun i hi => by simp at hi)
      rw [← this]; simp [blkTo]
  | k + 1, hk => by
    have ih := blk_is hm hL k (by omega)
    have hs : L.getD k 0 < bit m := hL _ (by simp [show k < L.length by omega])
    have hst := @meets_take L k (by omega)
    show those m (leastB (those m (memB (nextTo m (L.getD k 0) (blkTo m L k) (blkTo m L k).length)))) = _
    rw [ih]
    generalize L.getD k 0 = s at *
    have hnow : ∀ b, b ∈ those m (leastB (those m (meetsB (L.take k)))) → b < bit m := fun b hb => (mem_those.1 hb).1
    refine those_mem_eq (fun x hx => least_eq ?_ ?_ x)
    · intro u hu
      rw [mem_those] at hu ⊢
      obtain ⟨h1, h2⟩ := hu
      refine ⟨h1, ?_⟩
      have h2 : u ∈ nextTo m s _ _ := of_decide_eq_true h2
      rw [mem_nextTo] at h2
      obtain ⟨b, hb, hu⟩ := h2
      have hb2 := (mem_those.1 (leastB_iff.1 (mem_those.1 hb).2).1).2
      rw [hst]
      rcases mem_nextOf.1 hu with ⟨g1, rfl⟩ | ⟨g1, i, g2, g3, rfl⟩
      · exact ⟨hb2, g1⟩
      · exact ⟨meetsB_iff.2 (fun y hy => meets_sub (meetsB_iff.1 hb2 y hy) (sub_or_left _ _)), meets_bit g3⟩
    · intro v hv
      rw [mem_those, hst] at hv
      obtain ⟨h1, h2, h3⟩ := hv
      obtain ⟨b, hb, hbv⟩ := least_below v v (Nat.le_refl _) (show v ∈ those m (meetsB (L.take k)) from mem_those.2 ⟨h1, h2⟩)
      have hbm : b < bit m := lt_bit_of_sub hm h1 hbv
      have hbn : b ∈ those m (leastB (those m (meetsB (L.take k)))) := mem_those.2 ⟨hbm, hb⟩
      by_cases c : b &&& s = 0
      · obtain ⟨i, g1, g2⟩ := ne_zero_bit h3
        have him := lt_m_of_testBit h1 g1
        refine ⟨b ||| bit i, mem_those.2 ⟨or_lt_bit hbm (bit_lt_bit him), decide_eq_true (mem_nextTo.2 ⟨b, hbn, mem_nextOf.2 (.inr ⟨c, i, him, g2, rfl⟩)⟩)⟩, ?_⟩
        intro j hj
        rw [or_bit_testBit, Bool.or_eq_true, decide_eq_true_eq] at hj
        rcases hj with hj | rfl
        · exact hbv j hj
        · exact g1
      · exact ⟨b, mem_those.2 ⟨hbm, decide_eq_true (mem_nextTo.2 ⟨b, hbn, mem_nextOf.2 (.inl ⟨c, rfl⟩)⟩)⟩, hbv⟩
theorem blk_all {m : Nat} (hm : m ≤ 8) {L : List Nat} (hL : ∀ b, b ∈ L → b < bit m) : blkTo m L L.length = those m (leastB (those m (meetsB L))) := by
  rw [blk_is hm hL _ (Nat.le_refl _), List.take_length]
theorem blk_lt {m : Nat} {L : List Nat} (hm : m ≤ 8) {k b : Nat} (h : b ∈ blkTo m L k) : b < bit m := by
  have := bit_le m hm
  cases k with
  | zero => have : b = 0 := by simpa [blkTo] using h
            omega
  | succ k => exact (mem_those.1 h).1
theorem blk_len {m : Nat} {L : List Nat} (hm : m ≤ 8) (k : Nat) : (blkTo m L k).length ≤ 256 := by
  have := bit_le m hm
  cases k with
  | zero => simp [blkTo]
  | succ k =>
    have h := thoseTo_len (leastB (those m (memB (nextTo m (L.getD k 0) (blkTo m L k) (blkTo m L k).length)))) (bit m)
    have e : blkTo m L (k + 1) = thoseTo (leastB (those m (memB (nextTo m (L.getD k 0) (blkTo m L k) (blkTo m L k).length)))) (bit m) := rfl
    rw [e]; omega
theorem blk_pw {m : Nat} {L : List Nat} (k : Nat) : (blkTo m L k).Pairwise (· < ·) := by
  cases k with
  | zero => exact List.pairwise_singleton _ _
  | succ k => exact those_pwN _ _

/-! ### the shadow -/
def shadOf (m s : Nat) : List Nat := (elemsTo s m).map (fun i => nand s (bit i))
def shadTo (m : Nat) (L : List Nat) (k : Nat) : List Nat := (L.take k).flatMap (shadOf m)
def shedTo (s i : Nat) : List Nat := (elemsTo s i).map (fun i => nand s (bit i))
theorem shedTo_step (s i : Nat) : shedTo s (i + 1) = if s.testBit i = true then shedTo s i ++ [nand s (bit i)] else shedTo s i := by
  unfold shedTo
  rw [elemsTo_step]
  by_cases h : s.testBit i = true
  · simp [h]
  · simp [h]
theorem shedTo_len (s i : Nat) : (shedTo s i).length ≤ i := by
  have := elemsTo_len s i
  simpa [shedTo] using this
theorem shadTo_step (m : Nat) (L : List Nat) {k : Nat} (hk : k < L.length) : shadTo m L (k + 1) = shadTo m L k ++ shedTo (L.getD k 0) m := by
  unfold shadTo
  rw [List.take_add_one, List.getElem?_eq_getElem hk, List.flatMap_append]
  have : L.getD k 0 = L[k] := by simp [hk]
  rw [this]
  simp [shadOf, shedTo]
theorem shadTo_len (m : Nat) (hm : m ≤ 8) (L : List Nat) (k : Nat) : (shadTo m L k).length ≤ 8 * k := by
  induction k with
  | zero => simp [shadTo]
  | succ k ih =>
    by_cases h : k < L.length
    · rw [shadTo_step m L h, List.length_append]
      have := shedTo_len (L.getD k 0) m
      omega
    · have e : shadTo m L (k + 1) = shadTo m L k := by
        unfold shadTo
        rw [List.take_of_length_le (by omega), List.take_of_length_le (by omega)]
      rw [e]; omega
def shadB (m : Nat) (L : List Nat) (s : Nat) : Bool := (List.range m).any (fun i => !s.testBit i && decide (s + bit i ∈ L))
theorem nand_back {s i : Nat} (h : s.testBit i = false) : nand (s ||| bit i) (bit i) = s := by
  apply Nat.eq_of_testBit_eq
  intro j
  rw [nand_testBit, or_bit_testBit, testBit_bit]
  by_cases c : i = j
  · subst c; simp [h]
  · simp [c]
theorem shad_is {m : Nat} (hm : m ≤ 8) {L : List Nat} (hL : ∀ b, b ∈ L → b < bit m) : those m (memB (shadTo m L L.length)) = those m (shadB m L) := those_mem_eq (fun x hx => by
  have hb8 := bit_le m hm
  unfold shadB memB
  rw [decide_eq_true_eq, List.any_eq_true]
  unfold shadTo
  rw [List.take_length, List.mem_flatMap]
  constructor
  · rintro ⟨s, hs, h⟩
    obtain ⟨i, hi, rfl⟩ := List.mem_map.1 h
    obtain ⟨h1, h2⟩ := mem_elemsTo.1 hi
    refine ⟨i, by simpa using h1, ?_⟩
    have hb : (nand s (bit i)).testBit i = false := nand_bit_bit s i
    have hx8 : nand s (bit i) < 256 := by omega
    rw [hb, ← or_bit _ i hx8 (by omega) hb, nand_or_bit h2]
    simpa using hs
  · rintro ⟨i, hi, h⟩
    rw [Bool.and_eq_true, Bool.not_eq_true', decide_eq_true_eq] at h
    obtain ⟨h1, h2⟩ := h
    have hi : i < m := by simpa using hi
    rw [← or_bit x i (by omega) (by omega) h1] at h2
    refine ⟨x ||| bit i, h2, List.mem_map.2 ⟨i, mem_elemsTo.2 ⟨hi, by rw [or_bit_testBit]; simp⟩, nand_back h1⟩⟩)

/-! ### GALE's order -/
theorem elemsTo_split (s t : Nat) : ∀ n, t ≤ n → ∃ R, elemsTo s n = elemsTo s t ++ R ∧ ∀ x, x ∈ R → t ≤ x
  | 0, h => ⟨[], by have : t = 0 := by omega
                    subst this; simp, fun x hx => by cases hx⟩
  | n + 1, h => by
    by_cases e : t = n + 1
    · subst e; exact ⟨[], by simp, fun x hx => by cases hx⟩
    · obtain ⟨R, h1, h2⟩ := elemsTo_split s t n (by omega)
      rw [elemsTo_step]
      by_cases c : s.testBit n = true
      · rw [if_pos c]
        refine ⟨R ++ [n], by rw [h1, List.append_assoc], fun x hx => ?_⟩
        rcases List.mem_append.1 hx with hx | hx
        · exact h2 x hx
        · have : x = n := by simpa using hx
          omega
      · rw [if_neg c]; exact ⟨R, h1, h2⟩
theorem elems_before {s t i : Nat} (ht : t ≤ 8) (hi : i < sz s) : i < (elemsTo s t).length ↔ (elems s).getD i 0 < t := by
  obtain ⟨R, h1, h2⟩ := elemsTo_split s t 8 ht
  have e : elems s = elemsTo s t ++ R := h1
  have hl : sz s = (elemsTo s t).length + R.length := by unfold sz; rw [e, List.length_append]
  constructor
  · intro h
    have : (elems s).getD i 0 = (elemsTo s t)[i] := by
      rw [e]; simp [List.getElem?_append_left h, h]
    rw [this]
    have := List.getElem_mem h
    exact (mem_elemsTo.1 this).1
  · intro h
    refine Classical.byContradiction fun hn => ?_
    have hr : i - (elemsTo s t).length < R.length := by omega
    have : (elems s).getD i 0 = R[i - (elemsTo s t).length] := by
      rw [e]; simp [List.getElem?_append_right (show (elemsTo s t).length ≤ i by omega), hr]
    have := h2 _ (List.getElem_mem hr)
    omega
/-- as sets.Below has it: of each first part of the elements a has as many as b -/
def belB (a b : Nat) : Bool := (List.range 8).all (fun i => decide ((elemsTo b (i + 1)).length ≤ (elemsTo a (i + 1)).length))
/-- as rotaref.Gale has it -/
def galeB (a b : Nat) : Bool := (List.range (sz a)).all (fun i => decide ((elems a).getD i 0 ≤ (elems b).getD i 0))
theorem elemsTo_mono (s : Nat) {i j : Nat} (h : i ≤ j) : (elemsTo s i).length ≤ (elemsTo s j).length := by
  obtain ⟨R, e, _⟩ := elemsTo_split s i j h
  rw [e, List.length_append]; omega
theorem gale_is {a b : Nat} (h : sz a = sz b) : belB a b = galeB a b := by
  rw [Bool.eq_iff_iff]
  unfold belB galeB
  rw [List.all_eq_true, List.all_eq_true]
  constructor
  · intro hh i hi
    have hi : i < sz a := by simpa using hi
    have hlt : (elems b).getD i 0 < 8 := (elems_before (Nat.le_refl 8) (by omega)).1 (by show i < sz b; omega)
    have := hh ((elems b).getD i 0) (by simpa using hlt)
    have := of_decide_eq_true this
    have h1 := (elems_before (s := b) (i := i) (t := (elems b).getD i 0 + 1) (by omega) (by omega)).2 (by omega)
    have h2 := (elems_before (s := a) (i := i) (t := (elems b).getD i 0 + 1) (by omega) hi).1 (by omega)
    exact decide_eq_true (by omega)
  · intro hh t ht
    have ht : t < 8 := by simpa using ht
    refine decide_eq_true (Classical.byContradiction fun hn => ?_)
    -- the element of a at place k is not among the first, that of b is
    have hb8 : (elemsTo b (t + 1)).length ≤ sz b := elemsTo_mono b (show t + 1 ≤ 8 by omega)
    have hk : (elemsTo a (t + 1)).length < sz a := by omega
    have h1 := (elems_before (s := b) (i := (elemsTo a (t + 1)).length) (t := t + 1) (by omega) (by omega)).1 (by omega)
    have h2 := of_decide_eq_true (hh (elemsTo a (t + 1)).length (by simpa using hk))
    have h3 := (elems_before (s := a) (i := (elemsTo a (t + 1)).length) (t := t + 1) (by omega) hk).2 (by omega)
    omega

end Go.Proofs.Ytdcdhdlklppalaa

namespace Go.Proofs.Ytdcdhdlklppalaa
open Go.RowKit
set_option linter.unusedVariables false

theorem fam_pw {m : Nat} {L : List Nat} (h : isFam (m : Int) (ints L)) : L.Pairwise (· < ·) := by
  have hr := h.2.2.rising
  rw [List.pairwise_iff_getElem]
  intro i j hi hj hij
  have := hr i j hij (by rw [ints_len]; exact hj)
  rw [ints_getD, ints_getD] at this
  have e1 : L.getD i 0 = L[i] := by simp [hi]
  have e2 : L.getD j 0 = L[j] := by simp [hj]
  rw [e1, e2] at this
  omega
theorem fam_le {m : Nat} {L : List Nat} (hm : m ≤ 8) (h : isFam (m : Int) (ints L)) : L.length ≤ bit m := by
  have hb := bit_le m hm
  obtain ⟨_, _, hf⟩ := h
  have key : ∀ i, i < L.length → i ≤ L.getD i 0 := by
    intro i
    induction i with
    | zero => intro _; omega
    | succ i ih =>
      intro hi
      have h1 := ih (by omega)
      have h2 := (hf (i + 1) (by rw [ints_len]; exact hi)).2.2 (by omega)
      rw [ints_getD, ints_getD, show i + 1 - 1 = i from rfl] at h2
      omega
  by_cases hz : L.length = 0
  · omega
  · have h3 := key (L.length - 1) (by omega)
    have h4 := (hf (L.length - 1) (by rw [ints_len]; omega)).2.1
    rw [ints_getD, all_nat] at h4
    omega
theorem fam_open {n : Int} {l : List Int} (h : isFam n l) : ∃ (m : Nat) (L : List Nat), n = (m : Int) ∧ m ≤ 8 ∧ l = ints L ∧ (∀ b, b ∈ L → b < bit m) ∧ L.Pairwise (· < ·) ∧ L.length ≤ 256 ∧ isFam (m : Int) (ints L) := by
  obtain ⟨m, rfl⟩ := Int.eq_ofNat_of_zero_le h.1
  have hl := fam_ints h
  have hm : m ≤ 8 := by have := h.2.1; omega
  have hb := bit_le m hm
  have h2 : isFam (m : Int) (ints (toN l)) := by rw [hl]; exact h
  have hlt := fam_lt h
  exact ⟨m, toN l, rfl, hm, hl.symm, by simpa using hlt, fam_pw h2, by have := fam_le hm h2; omega, h2⟩

end Go.Proofs.Ytdcdhdlklppalaa
