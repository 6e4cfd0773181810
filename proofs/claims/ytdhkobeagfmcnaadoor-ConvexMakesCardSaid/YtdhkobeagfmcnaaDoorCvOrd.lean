
/-
  What pairs have ahead goes ahead, plainly: the sets that grow are those that are closed below, if all can go at all.
-/
import Derived.Test.YtdhkobeagfmcnaaDoorGrow
import Derived.Test.YtdhkobeagfmcnaaDoorConv
namespace Go.Proofs.YtdhkobeagfmcnaaDoor
set_option linter.unusedVariables false

def okPairs (n : Nat) (es : List (Int × Int)) : Prop := ∀ k, k < es.length → vA es k < n ∧ vB es k < n
/-- the pairs below k are no bar to element i behind s -/
def ordTo (es : List (Int × Int)) (s i k : Nat) : Bool := (List.range k).all (fun j => !(decide (vB es j = i) && !s.testBit (vA es j)))
def ordMay (es : List (Int × Int)) (s i : Nat) : Bool := ordTo es s i es.length
theorem ordMay_iff {es : List (Int × Int)} {s i : Nat} : ordMay es s i = true ↔ ∀ k, k < es.length → vB es k = i → s.testBit (vA es k) = true := by
  unfold ordMay ordTo
  rw [List.all_eq_true]
  constructor
  · intro h k hk e
    have := h k (List.mem_range.2 hk)
    simpa [e] using this
  · intro h k hk
    by_cases c : vB es k = i
    · simp [c, h k (List.mem_range.1 hk) c]
    · simp [c]
/-- does a pair bar set s? -/
def barAt (es : List (Int × Int)) (s k : Nat) : Bool := s.testBit (vB es k) && !s.testBit (vA es k)
def ordDown (es : List (Int × Int)) (s : Nat) : Bool := !(List.range es.length).any (barAt es s)
theorem ordDown_iff {es : List (Int × Int)} {s : Nat} : ordDown es s = true ↔ ∀ k, k < es.length → s.testBit (vB es k) = true → s.testBit (vA es k) = true := by
  unfold ordDown
  rw [Bool.not_eq_true', ← Bool.not_eq_true, List.any_eq_true]
  constructor
  · intro h k hk hb
    cases ha : s.testBit (vA es k)
    · exact absurd ⟨k, List.mem_range.2 hk, by unfold barAt; rw [hb, ha]; rfl⟩ h
    · rfl
  · rintro h ⟨k, hk, hb⟩
    unfold barAt at hb
    rw [Bool.and_eq_true, Bool.not_eq_true'] at hb
    rw [h k (List.mem_range.1 hk) hb.1] at hb
    exact absurd hb.2 (by decide)
def noLoop (es : List (Int × Int)) : Prop := ∀ k, k < es.length → vA es k ≠ vB es k
theorem ord_down {n : Nat} {es : List (Int × Int)} {s : Nat} (h : Grw n (ordMay es) s) : ordDown es s = true := by
  induction h with
  | zero => rw [ordDown_iff]; intro k _ hb; simp at hb
  | @step s i hg hi hs hm ih =>
    rw [ordDown_iff] at ih ⊢
    rw [ordMay_iff] at hm
    intro k hk hb
    rw [Nat.testBit_or, testBit_bit, Bool.or_eq_true, decide_eq_true_eq] at hb
    rw [Nat.testBit_or]
    rcases hb with hb | hb
    · rw [ih k hk hb]; rfl
    · rw [hm k hk hb.symm]; rfl
theorem ord_inter {n : Nat} {es : List (Int × Int)} {d s : Nat} (hd : ordDown es d = true) (h : Grw n (ordMay es) s) : Grw n (ordMay es) (d &&& s) := by
  induction h with
  | zero => rw [Nat.and_zero]; exact .zero
  | @step s i hg hi hs hm ih =>
    cases c : d.testBit i
    · have e : d &&& (s ||| bit i) = d &&& s := by
        apply Nat.eq_of_testBit_eq
        intro j
        simp only [Nat.testBit_and, Nat.testBit_or, testBit_bit]
        by_cases c2 : i = j
        · subst c2; simp [c]
        · simp [c2]
      rw [e]; exact ih
    · have e : d &&& (s ||| bit i) = d &&& s ||| bit i := by
        apply Nat.eq_of_testBit_eq
        intro j
        simp only [Nat.testBit_and, Nat.testBit_or, testBit_bit]
        by_cases c2 : i = j
        · subst c2; simp [c]
        · simp [c2]
      rw [e]
      refine .step ih hi (by rw [Nat.testBit_and, hs, Bool.and_false]) ?_
      rw [ordMay_iff] at hm ⊢
      rw [ordDown_iff] at hd
      intro k hk hb
      rw [Nat.testBit_and, hm k hk hb, hd k hk (by rw [hb]; exact c)]; rfl
theorem ord_loop {n : Nat} {es : List (Int × Int)} {k s : Nat} (hk : k < es.length) (hl : vA es k = vB es k) (h : Grw n (ordMay es) s) : s.testBit (vB es k) = false := by
  induction h with
  | zero => simp
  | @step s i hg hi hs hm ih =>
    rw [ordMay_iff] at hm
    rw [Nat.testBit_or, testBit_bit, ih]
    have : i ≠ vB es k := fun c => by
      have := hm k hk c.symm
      rw [hl, ih] at this
      cases this
    simp [this]
theorem and_all_self {n d : Nat} (hd : d < bit n) : d &&& (bit n - 1) = d := by
  apply Nat.eq_of_testBit_eq
  intro j
  rw [Nat.testBit_and, testBit_all]
  cases c : d.testBit j
  · rfl
  · rw [decide_eq_true (lt_m_of_testBit hd c)]; rfl
theorem ord_iff {n : Nat} (hn : n ≤ 8) {es : List (Int × Int)} (hok : okPairs n es) : (Good (n : Int) (ints (those n (ordDown es))) ∧ noLoop es) ↔ Grw n (ordMay es) (bit n - 1) := by
  have hb := bit_le n hn
  have hmem : ∀ s : Nat, (s : Int) ∈ ints (those n (ordDown es)) ↔ s < bit n ∧ ordDown es s = true := fun s => by
    rw [show ((s : Int) ∈ ints (those n (ordDown es)) ↔ s ∈ those n (ordDown es)) from ⟨fun h => by
      obtain ⟨a, ha, e⟩ := List.mem_map.1 h
      have e2 : a = s := by omega
      rwa [e2] at ha, fun h => List.mem_map.2 ⟨s, h, rfl⟩⟩, mem_those]
  constructor
  · rintro ⟨⟨h0, h1, h2⟩, hl⟩
    have key : ∀ s : Nat, (s : Int) ∈ ints (those n (ordDown es)) → Grw n (ordMay es) s := by
      intro s
      induction s using Nat.strongRecOn with
      | _ s ih =>
        intro hs
        rcases (h2 s hs).1 with rfl | ⟨e, he, hse, hin⟩
        · exact .zero
        · have hs2 := (hmem s).1 hs
          have h8 : s < 256 := by omega
          have hbit := bit_le_of_mem s e h8 he hse
          have hpos : 0 < bit e := Nat.two_pow_pos e
          have e1 : s - bit e = nand s (bit e) := (nand_bit s e h8 he hse).symm
          rw [e1] at hin
          have hg := ih (nand s (bit e)) (nand_bit_lt h8 he hse) hin
          have := Grw.step (n := n) (may := ordMay es) hg (lt_m_of_testBit hs2.1 hse) (by rw [nand_testBit_bit]; simp) (by
            rw [ordMay_iff]
            intro k hk hB
            rw [nand_testBit_bit, (ordDown_iff.1 hs2.2) k hk (by rw [hB]; exact hse)]
            have : e ≠ vA es k := fun c => hl k hk (by rw [← c, hB])
            simp [this])
          rwa [nand_or_bit hse] at this
    exact key _ (by rw [← all_nat]; exact h1)
  · intro hg
    have hdn : ∀ d, d < bit n → ordDown es d = true → Grw n (ordMay es) d := fun d hd h => by
      have := ord_inter h hg
      rwa [and_all_self hd] at this
    refine ⟨⟨?_, ?_, ?_⟩, ?_⟩
    · exact (hmem 0).2 ⟨by omega, ord_down (Grw.zero (n := n))⟩
    · rw [all_nat]; exact (hmem _).2 ⟨by omega, ord_down hg⟩
    · intro s hs
      obtain ⟨hs1, hs2⟩ := (hmem s).1 hs
      constructor
      · cases hdn s hs1 hs2 with
        | zero => exact .inl rfl
        | @step r i hr hi h3 h4 =>
          right
          refine ⟨i, by omega, by rw [Nat.testBit_or, testBit_bit]; simp, ?_⟩
          have e1 := or_bit r i (by have := hr.lt; omega) (by omega) h3
          rw [e1, Nat.add_sub_cancel]
          exact (hmem r).2 ⟨hr.lt, ord_down hr⟩
      · intro t ht
        obtain ⟨ht1, ht2⟩ := (hmem t).1 ht
        refine (hmem _).2 ⟨or_lt_bit hs1 ht1, ?_⟩
        rw [ordDown_iff] at hs2 ht2 ⊢
        intro k hk hB
        rw [Nat.testBit_or, Bool.or_eq_true] at hB ⊢
        exact hB.imp (hs2 k hk) (ht2 k hk)
    · intro k hk hl
      have h1 := ord_loop hk hl hg
      rw [testBit_all, decide_eq_false_iff_not] at h1
      exact h1 (hok k hk).2
theorem ord_list {n : Nat} {es : List (Int × Int)} (hg : Grw n (ordMay es) (bit n - 1)) : grown n (ordMay es) = those n (ordDown es) := by
  unfold grown those
  apply List.filter_congr
  intro s hs
  have hs1 : s < bit n := List.mem_range.1 hs
  rw [Bool.eq_iff_iff, decide_eq_true_eq, gS_all hs1]
  constructor
  · exact ord_down
  · intro h
    have := ord_inter h hg
    rwa [and_all_self hs1] at this

end Go.Proofs.YtdhkobeagfmcnaaDoor
