
/-
  The net of a directed graph; the fewest vertices that bar all ways are as many as the least that a set of places lets out. No program in sight.
-/
import Derived.Test.YtdcdhdlklppalaaPk14
namespace Go.Proofs.Ytdcdhdlklppalaa
set_option linter.unusedVariables false

def setM (p : Nat → Nat → Int) (a b : Nat) (x : Int) : Nat → Nat → Int := fun i j => if i = a ∧ j = b then x else p i j
/-- a net's vertices, one behind the other -/
def netV (fr tz : Nat) : Nat → Nat → Nat → Int
  | 0 => fun _ _ => 0
  | k + 1 => setM (setM (setM (netV fr tz k) (2 + 2 * k) (3 + 2 * k) 1) 0 (2 + 2 * k) (bti (fr.testBit k))) (3 + 2 * k) 1 (bti (tz.testBit k))
/-- and its edges -/
def netE (es : List (Int × Int)) (p : Nat → Nat → Int) : Nat → Nat → Nat → Int
  | 0 => p
  | k + 1 => setM (netE es p k) (3 + 2 * (es.getD k (0,0)).1.toNat) (2 + 2 * (es.getD k (0,0)).2.toNat) 1
def net (n : Nat) (es : List (Int × Int)) (fr tz : Nat) : Nat → Nat → Int := netE es (netV fr tz n) es.length

def Edge (es : List (Int × Int)) (u v : Nat) : Prop := ∃ k, k < es.length ∧ (es.getD k (0,0)).1.toNat = u ∧ (es.getD k (0,0)).2.toNat = v

theorem netV_fst (fr tz : Nat) : ∀ k v, netV fr tz k 0 (2 + 2 * v) = if v < k then bti (fr.testBit v) else 0 := by
  intro k
  induction k with
  | zero => intro v; rw [if_neg (by omega)]; rfl
  | succ k ih =>
    intro v
    simp only [netV, setM]
    rw [if_neg (by omega)]
    by_cases c : v = k
    · subst c; rw [if_pos (by simp), if_pos (by omega)]
    · rw [if_neg (by omega), if_neg (by omega), ih v]
      by_cases c2 : v < k
      · rw [if_pos c2, if_pos (by omega)]
      · rw [if_neg c2, if_neg (by omega)]
theorem netV_mid (fr tz : Nat) : ∀ k v, netV fr tz k (2 + 2 * v) (3 + 2 * v) = if v < k then 1 else 0 := by
  intro k
  induction k with
  | zero => intro v; rw [if_neg (by omega)]; rfl
  | succ k ih =>
    intro v
    simp only [netV, setM]
    rw [if_neg (by omega), if_neg (by omega)]
    by_cases c : v = k
    · subst c; rw [if_pos ⟨rfl, rfl⟩, if_pos (by omega)]
    · rw [if_neg (by omega), ih v]
      by_cases c2 : v < k
      · rw [if_pos c2, if_pos (by omega)]
      · rw [if_neg c2, if_neg (by omega)]
theorem netV_last (fr tz : Nat) : ∀ k v, netV fr tz k (3 + 2 * v) 1 = if v < k then bti (tz.testBit v) else 0 := by
  intro k
  induction k with
  | zero => intro v; rw [if_neg (by omega)]; rfl
  | succ k ih =>
    intro v
    simp only [netV, setM]
    by_cases c : v = k
    · subst c; rw [if_pos (by simp), if_pos (by omega)]
    · rw [if_neg (by omega), if_neg (by omega), if_neg (by omega), ih v]
      by_cases c2 : v < k
      · rw [if_pos c2, if_pos (by omega)]
      · rw [if_neg c2, if_neg (by omega)]
theorem bti_01 (b : Bool) : bti b = 0 ∨ bti b = 1 := by cases b <;> simp [bti]
theorem netV_01 (fr tz : Nat) : ∀ k i j, netV fr tz k i j = 0 ∨ netV fr tz k i j = 1 := by
  intro k
  induction k with
  | zero => intro i j; exact .inl rfl
  | succ k ih =>
    intro i j
    simp only [netV, setM]
    split
    · exact bti_01 _
    · split
      · exact bti_01 _
      · split
        · exact .inr rfl
        · exact ih i j
/-- where a net leads without edges -/
theorem netV_supp (fr tz : Nat) : ∀ k i j, netV fr tz k i j ≠ 0 → (∃ v, v < k ∧ i = 0 ∧ j = 2 + 2 * v ∧ fr.testBit v = true) ∨ (∃ v, v < k ∧ i = 2 + 2 * v ∧ j = 3 + 2 * v) ∨ (∃ v, v < k ∧ i = 3 + 2 * v ∧ j = 1 ∧ tz.testBit v = true) := by
  intro k
  induction k with
  | zero => intro i j h; exact absurd rfl h
  | succ k ih =>
    intro i j h
    simp only [netV, setM] at h
    split at h
    case isTrue c =>
      refine .inr (.inr ⟨k, by omega, c.1, c.2, ?_⟩)
      unfold bti at h
      cases hb : tz.testBit k
      · rw [hb] at h; exact absurd rfl h
      · rfl
    case isFalse c =>
      split at h
      case isTrue c2 =>
        refine .inl ⟨k, by omega, c2.1, c2.2, ?_⟩
        unfold bti at h
        cases hb : fr.testBit k
        · rw [hb] at h; exact absurd rfl h
        · rfl
      case isFalse c2 =>
        split at h
        case isTrue c3 => exact .inr (.inl ⟨k, by omega, c3.1, c3.2⟩)
        case isFalse c3 =>
          rcases ih i j h with ⟨v, h1, h2⟩ | ⟨v, h1, h2⟩ | ⟨v, h1, h2⟩
          · exact .inl ⟨v, by omega, h2⟩
          · exact .inr (.inl ⟨v, by omega, h2⟩)
          · exact .inr (.inr ⟨v, by omega, h2⟩)
theorem netE_keep (es : List (Int × Int)) (p : Nat → Nat → Int) {i j : Nat} (h : ¬ (∃ u v, i = 3 + 2 * u ∧ j = 2 + 2 * v)) : ∀ k, netE es p k i j = p i j := by
  intro k
  induction k with
  | zero => rfl
  | succ k ih =>
    simp only [netE, setM]
    rw [if_neg (fun c => h ⟨_, _, c.1, c.2⟩), ih]
theorem netE_edge (es : List (Int × Int)) (p : Nat → Nat → Int) (hp : ∀ u v, p (3 + 2 * u) (2 + 2 * v) = 0) : ∀ k u v, (netE es p k (3 + 2 * u) (2 + 2 * v) = 1 ∧ ∃ i, i < k ∧ (es.getD i (0,0)).1.toNat = u ∧ (es.getD i (0,0)).2.toNat = v) ∨ (netE es p k (3 + 2 * u) (2 + 2 * v) = 0 ∧ ¬ ∃ i, i < k ∧ (es.getD i (0,0)).1.toNat = u ∧ (es.getD i (0,0)).2.toNat = v) := by
  intro k
  induction k with
  | zero => intro u v; exact .inr ⟨hp u v, by rintro ⟨i, hi, _⟩; omega⟩
  | succ k ih =>
    intro u v
    simp only [netE, setM]
    by_cases c : 3 + 2 * u = 3 + 2 * (es.getD k (0,0)).1.toNat ∧ 2 + 2 * v = 2 + 2 * (es.getD k (0,0)).2.toNat
    · rw [if_pos c]
      exact .inl ⟨rfl, k, by omega, by omega, by omega⟩
    · rw [if_neg c]
      rcases ih u v with ⟨h1, i, h2, h3⟩ | ⟨h1, h2⟩
      · exact .inl ⟨h1, i, by omega, h3⟩
      · refine .inr ⟨h1, ?_⟩
        rintro ⟨i, hi, e1, e2⟩
        by_cases e : i = k
        · subst e; exact c ⟨by omega, by omega⟩
        · exact h2 ⟨i, by omega, e1, e2⟩
theorem netV_edge (fr tz k u v : Nat) : netV fr tz k (3 + 2 * u) (2 + 2 * v) = 0 := by
  apply Classical.byContradiction
  intro h
  rcases netV_supp fr tz k _ _ h with ⟨w, _, h1, _⟩ | ⟨w, _, h1, h2⟩ | ⟨w, _, h1, h2, _⟩ <;> omega
theorem net_edge (n : Nat) (es : List (Int × Int)) (fr tz u v : Nat) : (net n es fr tz (3 + 2 * u) (2 + 2 * v) = 1 ∧ Edge es u v) ∨ (net n es fr tz (3 + 2 * u) (2 + 2 * v) = 0 ∧ ¬ Edge es u v) :=
  netE_edge es _ (netV_edge fr tz n) es.length u v
theorem net_keep (n : Nat) (es : List (Int × Int)) (fr tz : Nat) {i j : Nat} (h : ¬ (∃ u v, i = 3 + 2 * u ∧ j = 2 + 2 * v)) : net n es fr tz i j = netV fr tz n i j := netE_keep es _ h _
theorem net_01 (n : Nat) (es : List (Int × Int)) (fr tz i j : Nat) : net n es fr tz i j = 0 ∨ net n es fr tz i j = 1 := by
  by_cases h : ∃ u v, i = 3 + 2 * u ∧ j = 2 + 2 * v
  · obtain ⟨u, v, rfl, rfl⟩ := h
    rcases net_edge n es fr tz u v with ⟨h, _⟩ | ⟨h, _⟩
    · exact .inr h
    · exact .inl h
  · rw [net_keep n es fr tz h]; exact netV_01 fr tz n i j
theorem net_supp {n : Nat} {es : List (Int × Int)} {fr tz i j : Nat} (h : net n es fr tz i j ≠ 0) : (∃ v, v < n ∧ i = 0 ∧ j = 2 + 2 * v ∧ fr.testBit v = true) ∨ (∃ v, v < n ∧ i = 2 + 2 * v ∧ j = 3 + 2 * v) ∨ (∃ v, v < n ∧ i = 3 + 2 * v ∧ j = 1 ∧ tz.testBit v = true) ∨ ∃ u v, i = 3 + 2 * u ∧ j = 2 + 2 * v ∧ Edge es u v := by
  by_cases c : ∃ u v, i = 3 + 2 * u ∧ j = 2 + 2 * v
  · obtain ⟨u, v, rfl, rfl⟩ := c
    rcases net_edge n es fr tz u v with ⟨h1, h2⟩ | ⟨h1, h2⟩
    · exact .inr (.inr (.inr ⟨u, v, rfl, rfl, h2⟩))
    · exact absurd h1 h
  · rw [net_keep n es fr tz c] at h
    rcases netV_supp fr tz n i j h with h | h | h
    · exact .inl h
    · exact .inr (.inl h)
    · exact .inr (.inr (.inl h))

/-- what is reached from some vertices without others -/
inductive Rch (E : Nat → Nat → Prop) (fr gone : Nat) : Nat → Prop
  | base {v : Nat} : fr.testBit v = true → gone.testBit v = false → Rch E fr gone v
  | step {u v : Nat} : Rch E fr gone u → E u v → gone.testBit v = false → Rch E fr gone v
theorem Rch.free {E : Nat → Nat → Prop} {fr gone v : Nat} (h : Rch E fr gone v) : gone.testBit v = false := by cases h <;> assumption
theorem Rch.lt {E : Nat → Nat → Prop} {fr gone n v : Nat} (hfr : ∀ v, fr.testBit v = true → v < n) (hE : ∀ u v, E u v → v < n) (h : Rch E fr gone v) : v < n := by
  cases h
  · exact hfr _ (by assumption)
  · exact hE _ _ (by assumption)
/-- does a set of vertices bar all ways? -/
def Bars (E : Nat → Nat → Prop) (fr tz s : Nat) : Prop := ∀ v, Rch E fr s v → tz.testBit v = false

theorem isum_pair (g : Nat → Int) (n : Nat) : isum g (2 + 2 * n) = g 0 + g 1 + isum (fun v => g (2 + 2 * v) + g (3 + 2 * v)) n := by
  induction n with
  | zero => simp [isum]
  | succ n ih =>
    have : isum g (2 + 2 * (n + 1)) = isum g (2 + 2 * n) + g (2 + 2 * n) + g (3 + 2 * n) := by
      rw [show 2 + 2 * (n + 1) = (2 + 2 * n) + 1 + 1 by omega]
      show isum g (2 + 2 * n) + g (2 + 2 * n) + g (2 + 2 * n + 1) = _
      rw [show 2 + 2 * n + 1 = 3 + 2 * n by omega]
    rw [this, ih]
    simp only [isum]
    omega
theorem elemsTo_isum (s : Nat) : ∀ k, ((elemsTo s k).length : Int) = isum (fun v => bti (s.testBit v)) k := by
  intro k
  induction k with
  | zero => rfl
  | succ k ih =>
    rw [elemsTo_step]
    have e : isum (fun v => bti (s.testBit v)) (k + 1) = isum (fun v => bti (s.testBit v)) k + bti (s.testBit k) := rfl
    rw [e, ← ih]
    cases h : s.testBit k
    · have e2 : bti false = 0 := rfl
      rw [if_neg (by decide), e2]; omega
    · have e2 : bti true = 1 := rfl
      rw [if_pos rfl, e2, List.length_append]
      simp
theorem sz_isum {n s : Nat} (hn : n ≤ 8) (hs : ∀ v, s.testBit v = true → v < n) : (sz s : Int) = isum (fun v => bti (s.testBit v)) n := by
  have : sz s = (elemsTo s 8).length := rfl
  rw [this, elemsTo_isum, isum_tail (fun j h1 h2 => by
    cases h : s.testBit j
    · rfl
    · have := hs j h; omega) hn]

theorem cut_of_bars {n : Nat} (hn : n ≤ 8) {es : List (Int × Int)} {fr tz s : Nat} (hs : ∀ v, s.testBit v = true → v < n) (h : Bars (Edge es) fr tz s) :
    ∃ S : Nat → Bool, S 0 = true ∧ S 1 = false ∧ capS (2 + 2 * n) (net n es fr tz) S ≤ sz s := by
  classical
  let R : Nat → Prop := Rch (Edge es) fr s
  let X : Nat → Prop := fun v => fr.testBit v = true ∨ ∃ u, R u ∧ Edge es u v
  let S : Nat → Bool := fun i => decide (i = 0 ∨ (2 ≤ i ∧ i % 2 = 0 ∧ X ((i - 2) / 2)) ∨ (3 ≤ i ∧ i % 2 = 1 ∧ R ((i - 3) / 2)))
  have S0 : S 0 = true := by simp [S]
  have S1 : S 1 = false := by simp [S]
  have SX : ∀ v, S (2 + 2 * v) = true ↔ X v := fun v => by
    have e : (2 + 2 * v - 2) / 2 = v := by omega
    simp only [S, decide_eq_true_eq, e]
    constructor
    · rintro (h | ⟨_, _, h⟩ | ⟨_, h, _⟩)
      · omega
      · exact h
      · omega
    · intro h; exact .inr (.inl ⟨by omega, by omega, h⟩)
  have SR : ∀ v, S (3 + 2 * v) = true ↔ R v := fun v => by
    have e : (3 + 2 * v - 3) / 2 = v := by omega
    simp only [S, decide_eq_true_eq, e]
    constructor
    · rintro (h | ⟨_, h, _⟩ | ⟨_, _, h⟩)
      · omega
      · omega
      · exact h
    · intro h; exact .inr (.inr ⟨by omega, by omega, h⟩)
  refine ⟨S, S0, S1, ?_⟩
  have key : ∀ i, (isum (fun j => if S i = true ∧ S j = false then net n es fr tz i j else 0) (2 + 2 * n)) ≤ (if ∃ v, i = 2 + 2 * v ∧ s.testBit v = true then 1 else 0) := by
    intro i
    have hterm : ∀ j, j < 2 + 2 * n → (if S i = true ∧ S j = false then net n es fr tz i j else 0) ≤ (if j = i + 1 then (if ∃ v, i = 2 + 2 * v ∧ s.testBit v = true then 1 else 0) else 0 : Int) := by
      intro j hj
      by_cases c : S i = true ∧ S j = false
      · rw [if_pos c]
        by_cases z : net n es fr tz i j = 0
        · rw [z]; repeat' split
          all_goals omega
        · have z1 : net n es fr tz i j = 1 := (net_01 n es fr tz i j).resolve_left z
          rw [z1]
          rcases net_supp z with ⟨v, hv, rfl, rfl, hf⟩ | ⟨v, hv, rfl, rfl⟩ | ⟨v, hv, rfl, rfl, ht⟩ | ⟨u, v, rfl, rfl, hE⟩
          · have : S (2 + 2 * v) = true := (SX v).2 (.inl hf)
            rw [this] at c; cases c.2
          · have hx := (SX v).1 c.1
            have hr : ¬ R v := fun g => by have := (SR v).2 g; rw [this] at c; cases c.2
            have hsv : s.testBit v = true := by
              cases hb : s.testBit v
              · exfalso
                apply hr
                rcases hx with hx | ⟨u, hu, he⟩
                · exact Rch.base hx hb
                · exact Rch.step hu he hb
              · rfl
            rw [if_pos (by omega), if_pos ⟨v, rfl, hsv⟩]
            exact Int.le_refl _
          · have := h v ((SR v).1 c.1)
            rw [this] at ht; cases ht
          · have : S (2 + 2 * v) = true := (SX v).2 (.inr ⟨u, (SR u).1 c.1, hE⟩)
            rw [this] at c; cases c.2
      · rw [if_neg c]; repeat' split
        all_goals omega
    refine Int.le_trans (isum_monoM hterm) ?_
    by_cases hi : i + 1 < 2 + 2 * n
    · rw [isum_pick (g := fun _ => if ∃ v, i = 2 + 2 * v ∧ s.testBit v = true then (1 : Int) else 0) hi]
      exact Int.le_refl _
    · rw [isum_zero (fun j hj => if_neg (by omega))]
      split <;> omega
  unfold capS
  refine Int.le_trans (isum_monoM fun i _ => key i) ?_
  rw [isum_pair, sz_isum hn hs]
  rw [if_neg (by rintro ⟨v, h, _⟩; omega), if_neg (by rintro ⟨v, h, _⟩; omega)]
  have : isum (fun v => (if ∃ u, 2 + 2 * v = 2 + 2 * u ∧ s.testBit u = true then (1:Int) else 0) + (if ∃ u, 3 + 2 * v = 2 + 2 * u ∧ s.testBit u = true then (1:Int) else 0)) n ≤ isum (fun v => bti (s.testBit v)) n := isum_monoM fun v _ => by
    rw [if_neg (c := ∃ u, 3 + 2 * v = 2 + 2 * u ∧ s.testBit u = true) (by rintro ⟨u, h, _⟩; omega)]
    unfold bti
    by_cases c : s.testBit v = true
    · rw [if_pos ⟨v, rfl, c⟩, if_pos c]; omega
    · rw [if_neg (by rintro ⟨u, e, h⟩; exact c (by rw [show v = u by omega]; exact h)), if_neg c]; omega
  omega

theorem bars_of_cut {n : Nat} (hn : n ≤ 8) {es : List (Int × Int)} {fr tz : Nat} (hfr : ∀ v, fr.testBit v = true → v < n) (hE : ∀ u v, Edge es u v → u < n ∧ v < n) {S : Nat → Bool} (h0 : S 0 = true) (h1 : S 1 = false) :
    ∃ s, s < 256 ∧ (∀ v, s.testBit v = true → v < n) ∧ Bars (Edge es) fr tz s ∧ (sz s : Int) ≤ capS (2 + 2 * n) (net n es fr tz) S := by
  classical
  -- charged
  let ch : Nat → Prop := fun v => v < n ∧ ((fr.testBit v = true ∧ S (2 + 2 * v) = false) ∨ (∃ u, u < n ∧ Edge es u v ∧ S (3 + 2 * u) = true ∧ S (2 + 2 * v) = false) ∨ (S (2 + 2 * v) = true ∧ S (3 + 2 * v) = false) ∨ (tz.testBit v = true ∧ S (3 + 2 * v) = true))
  obtain ⟨s, hs, hbits⟩ := exists_set ch
  have hb : ∀ v, s.testBit v = true ↔ ch v := fun v => by
    by_cases hv : v < 8
    · exact hbits v hv
    · constructor
      · intro h; exact absurd (lt_of_testBit hs h) hv
      · intro h; exact absurd h.1 (by omega)
  have hsn : ∀ v, s.testBit v = true → v < n := fun v h => ((hb v).1 h).1
  refine ⟨s, hs, hsn, ?_, ?_⟩
  · -- out of each reached vertex lies in S
    have hr : ∀ v, Rch (Edge es) fr s v → v < n ∧ S (3 + 2 * v) = true := by
      intro v h
      induction h with
      | @base v hf hg =>
        have hv := hfr v hf
        refine ⟨hv, ?_⟩
        have hng : ¬ ch v := fun c => by rw [(hb v).2 c] at hg; cases hg
        cases a : S (3 + 2 * v)
        · exfalso
          apply hng
          refine ⟨hv, ?_⟩
          cases b : S (2 + 2 * v)
          · exact .inl ⟨hf, rfl⟩
          · exact .inr (.inr (.inl ⟨rfl, a⟩))
        · rfl
      | @step u v hu he hg ih =>
        have hv := (hE u v he).2
        refine ⟨hv, ?_⟩
        have hng : ¬ ch v := fun c => by rw [(hb v).2 c] at hg; cases hg
        cases a : S (3 + 2 * v)
        · exfalso
          apply hng
          refine ⟨hv, ?_⟩
          cases b : S (2 + 2 * v)
          · exact .inr (.inl ⟨u, (hE u v he).1, he, ih.2, rfl⟩)
          · exact .inr (.inr (.inl ⟨rfl, a⟩))
        · rfl
    intro v h
    obtain ⟨hv, hS⟩ := hr v h
    cases ht : tz.testBit v
    · rfl
    · exfalso
      have := (hb v).2 ⟨hv, .inr (.inr (.inr ⟨ht, hS⟩))⟩
      rw [h.free] at this; cases this
  · rw [sz_isum hn hsn]
    have hnn : ∀ i j, 0 ≤ (if S i = true ∧ S j = false then net n es fr tz i j else 0) := fun i j => by
      split
      · rcases net_01 n es fr tz i j with h | h <;> omega
      · omega
    have e1 : capS (2 + 2 * n) (net n es fr tz) S = isum (fun j => isum (fun i => if S i = true ∧ S j = false then net n es fr tz i j else 0) (2 + 2 * n)) (2 + 2 * n) := isum_swap _ _ _
    rw [e1, isum_pair]
    have c0 : (0 : Int) ≤ isum (fun i => if S i = true ∧ S 0 = false then net n es fr tz i 0 else 0) (2 + 2 * n) := isum_nonneg fun i _ => hnn i 0
    have c1 : isum (fun v => if S (3 + 2 * v) = true ∧ S 1 = false then net n es fr tz (3 + 2 * v) 1 else 0) n ≤ isum (fun i => if S i = true ∧ S 1 = false then net n es fr tz i 1 else 0) (2 + 2 * n) := by
      rw [isum_pair]
      have a := hnn 0 1
      have b := hnn 1 1
      have : isum (fun v => if S (3 + 2 * v) = true ∧ S 1 = false then net n es fr tz (3 + 2 * v) 1 else 0) n ≤ isum (fun v => (if S (2 + 2 * v) = true ∧ S 1 = false then net n es fr tz (2 + 2 * v) 1 else 0) + (if S (3 + 2 * v) = true ∧ S 1 = false then net n es fr tz (3 + 2 * v) 1 else 0)) n := isum_monoM fun v _ => by
        have := hnn (2 + 2 * v) 1
        omega
      omega
    have c2 : isum (fun v => bti (s.testBit v)) n ≤ isum (fun v => (isum (fun i => if S i = true ∧ S (2 + 2 * v) = false then net n es fr tz i (2 + 2 * v) else 0) (2 + 2 * n) + isum (fun i => if S i = true ∧ S (3 + 2 * v) = false then net n es fr tz i (3 + 2 * v) else 0) (2 + 2 * n)) + (if S (3 + 2 * v) = true ∧ S 1 = false then net n es fr tz (3 + 2 * v) 1 else 0)) n := isum_monoM fun v hv => by
      have n1 : 0 ≤ isum (fun i => if S i = true ∧ S (2 + 2 * v) = false then net n es fr tz i (2 + 2 * v) else 0) (2 + 2 * n) := isum_nonneg fun i _ => hnn i _
      have n2 : 0 ≤ isum (fun i => if S i = true ∧ S (3 + 2 * v) = false then net n es fr tz i (3 + 2 * v) else 0) (2 + 2 * n) := isum_nonneg fun i _ => hnn i _
      have n3 := hnn (3 + 2 * v) 1
      cases hc : s.testBit v
      · have e0 : bti false = 0 := rfl
        rw [e0]; omega
      · have e1 : bti true = 1 := rfl
        rw [e1]
        rcases ((hb v).1 hc).2 with ⟨hf, hS⟩ | ⟨u, hu, he, hS1, hS2⟩ | ⟨hS1, hS2⟩ | ⟨ht, hS⟩
        · have := isum_ge_one (f := fun i => if S i = true ∧ S (2 + 2 * v) = false then net n es fr tz i (2 + 2 * v) else 0) (n := 2 + 2 * n) (k := 0) (fun i _ => hnn i _) (by omega)
          simp only [h0, hS, and_self, if_true] at this
          rw [net_keep n es fr tz (by rintro ⟨u, w, h, _⟩; omega), netV_fst, if_pos hv, hf] at this
          simp only [bti, if_true] at this
          simp only [hS, and_true] at this n2 ⊢
          omega
        · have := isum_ge_one (f := fun i => if S i = true ∧ S (2 + 2 * v) = false then net n es fr tz i (2 + 2 * v) else 0) (n := 2 + 2 * n) (k := 3 + 2 * u) (fun i _ => hnn i _) (by omega)
          have e : net n es fr tz (3 + 2 * u) (2 + 2 * v) = 1 := by
            rcases net_edge n es fr tz u v with ⟨h, _⟩ | ⟨_, h⟩
            · exact h
            · exact absurd he h
          simp only [hS1, hS2, and_self, if_true, e] at this
          simp only [hS2, and_true] at this n2 ⊢
          omega
        · have := isum_ge_one (f := fun i => if S i = true ∧ S (3 + 2 * v) = false then net n es fr tz i (3 + 2 * v) else 0) (n := 2 + 2 * n) (k := 2 + 2 * v) (fun i _ => hnn i _) (by omega)
          simp only [hS1, hS2, and_self, if_true] at this
          rw [net_keep n es fr tz (by rintro ⟨u, w, h, _⟩; omega), netV_mid, if_pos hv] at this
          simp only [hS2, and_true] at this n1 n3 ⊢
          omega
        · have e : (if S (3 + 2 * v) = true ∧ S 1 = false then net n es fr tz (3 + 2 * v) 1 else 0) = 1 := by
            rw [if_pos ⟨hS, h1⟩, net_keep n es fr tz (by rintro ⟨u, w, _, h⟩; omega), netV_last, if_pos hv, ht]; rfl
          omega
    rw [isum_add] at c2
    have : (0:Int) + 0 = 0 := rfl
    omega

/-- the fewest vertices that bar all ways are as many as the least that a set of places lets out -/
theorem minCut_bars {n : Nat} (hn : n ≤ 8) {es : List (Int × Int)} {fr tz : Nat} (hfr : ∀ v, fr.testBit v = true → v < n) (hE : ∀ u v, Edge es u v → u < n ∧ v < n) {k : Int} (h : MinCut (2 + 2 * n) (net n es fr tz) k)
    {b : Nat} (hb : ∀ v, b.testBit v = true → v < n) (hB : Bars (Edge es) fr tz b) (hmin : ∀ s, s < 256 → (∀ v, s.testBit v = true → v < n) → Bars (Edge es) fr tz s → sz b ≤ sz s) : k = sz b := by
  obtain ⟨⟨S, s0, s1, e⟩, l⟩ := h
  obtain ⟨T, t0, t1, le⟩ := cut_of_bars hn hb hB
  have a := l T t0 t1
  obtain ⟨s, hs, hsn, hB', le'⟩ := bars_of_cut (tz := tz) hn hfr hE s0 s1
  have := hmin s hs hsn hB'
  omega

end Go.Proofs.Ytdcdhdlklppalaa
