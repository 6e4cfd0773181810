
/-
  What grows element by element, and the vertices of a tree that can be taken away, plainly. No program in sight.
-/
import Derived.Test.YtdhkobeagfmcnaaDoorTree
namespace Go.Proofs.YtdhkobeagfmcnaaDoor
set_option linter.unusedVariables false

/-- sets that come of none by one element more each time, as may be -/
inductive Grw (n : Nat) (may : Nat → Nat → Bool) : Nat → Prop
  | zero : Grw n may 0
  | step {s i : Nat} : Grw n may s → i < n → s.testBit i = false → may s i = true → Grw n may (s ||| bit i)
theorem Grw.lt {n : Nat} {may : Nat → Nat → Bool} {s : Nat} (h : Grw n may s) : s < bit n := by
  induction h with
  | zero => exact Nat.one_le_two_pow
  | step _ hi _ _ ih => exact or_lt_bit ih (bit_lt_bit hi)

/-! ### the edges within some vertices -/
def inV (es : List (Int × Int)) (v k : Nat) : Bool := v.testBit (vA es k) && v.testBit (vB es k)
def insT (es : List (Int × Int)) (v : Nat) : Nat → Nat
  | 0 => 0
  | k + 1 => if inV es v k = true then insT es v k ||| bit k else insT es v k
theorem insT_testBit (es : List (Int × Int)) (v k i : Nat) : (insT es v k).testBit i = (decide (i < k) && inV es v i) := by
  induction k with
  | zero => show Nat.testBit 0 i = _; simp
  | succ k ih =>
    unfold insT
    split
    · rename_i h
      rw [Nat.testBit_or, testBit_bit, ih]
      by_cases c : k = i
      · subst c; simp [h]
      · simp [c, show i < k + 1 ↔ i < k by omega]
    · rename_i h
      rw [ih]
      by_cases c : k = i
      · subst c; simp at h; simp [h]
      · simp [show i < k + 1 ↔ i < k by omega]
theorem insT_lt (es : List (Int × Int)) (v k : Nat) : insT es v k < bit k := by
  induction k with
  | zero => exact Nat.one_le_two_pow
  | succ k ih =>
    have : bit k < bit (k + 1) := bit_lt_bit (Nat.lt_succ_self k)
    unfold insT
    split
    · exact or_lt_bit (by omega) this
    · omega
def cntT (es : List (Int × Int)) (v : Nat) : Nat → Nat
  | 0 => 0
  | k + 1 => cntT es v k + (if inV es v k = true then 1 else 0)
theorem insT_sz (es : List (Int × Int)) (v k : Nat) (hk : k ≤ 8) : sz (insT es v k) = cntT es v k := by
  induction k with
  | zero => exact sz_zero
  | succ k ih =>
    have ih := ih (by omega)
    unfold insT cntT
    by_cases h : inV es v k = true
    · rw [if_pos h, if_pos h, sz_add (by omega), ih]
      rw [insT_testBit]; simp
    · rw [if_neg h, if_neg h, ih, Nat.add_zero]
/-- how many edges vertex i has to those that are not in s -/
def degAt (es : List (Int × Int)) (s i k : Nat) : Bool := (decide (vA es k = i) && !s.testBit (vB es k)) || (decide (vB es k = i) && !s.testBit (vA es k))
def degT (es : List (Int × Int)) (s i : Nat) : Nat → Nat
  | 0 => 0
  | k + 1 => degT es s i k + (if degAt es s i k = true then 1 else 0)
theorem deg_cnt {n : Nat} {es : List (Int × Int)} (hG : Grf n es) {s i : Nat} (hi : i < n) (hs : s.testBit i = false) : ∀ k, k ≤ es.length → degT es s i k + cntT es (nand (bit n - 1) (s ||| bit i)) k = cntT es (nand (bit n - 1) s) k
  | 0, _ => rfl
  | k + 1, hk => by
    have ih := deg_cnt hG hi hs k (by omega)
    have hA := (hG.lt k (by omega)).1
    have hB := (hG.lt k (by omega)).2
    unfold degT cntT
    rw [← ih]
    have e : (if degAt es s i k = true then 1 else 0) + (if inV es (nand (bit n - 1) (s ||| bit i)) k = true then 1 else 0) = (if inV es (nand (bit n - 1) s) k = true then 1 else 0 : Nat) := by
      unfold degAt inV
      simp only [nand_testBit, testBit_all, Nat.testBit_or, testBit_bit, hA, hB, decide_true, Bool.true_and]
      generalize vA es k = a at *
      generalize vB es k = b at *
      by_cases c1 : a = i
      · subst c1
        rw [hs]
        by_cases c2 : b = a
        · subst c2; rw [hs]; simp
        · cases hb : s.testBit b <;> simp [c2, show ¬ a = b from fun h => c2 h.symm]
      · by_cases c2 : b = i
        · subst c2
          rw [hs]
          cases ha : s.testBit a <;> simp [c1, show ¬ b = a from fun h => c1 h.symm]
        · cases ha : s.testBit a <;> cases hb : s.testBit b <;> simp [c1, c2, show ¬ i = a from fun h => c1 h.symm, show ¬ i = b from fun h => c2 h.symm]
    omega

/-! ### trees -/
structure IsTr (n : Nat) (es : List (Int × Int)) : Prop where
  g : Grf n es
  n1 : 1 ≤ n
  len : es.length + 1 = n
  one : ∀ R, Reps n es (bit es.length - 1) R → sz R = 1
theorem sub_all {x k : Nat} (hx : x < bit k) : sub x (bit k - 1) := fun i hi => by
  rw [testBit_all, decide_eq_true_eq]; exact lt_m_of_testBit hx hi
/-- each edge joins two parts -/
theorem IsTr.parts {n : Nat} {es : List (Int × Int)} (h : IsTr n es) : ∀ d x R, x < bit es.length → sz x + d = es.length → Reps n es x R → sz R + sz x = n := by
  have hE := h.g.ends
  have h8 := h.g.e8
  have hn8 : n ≤ 8 := by have := h.g.n7; omega
  have hb := bit_le _ h8
  have hln := h.len
  have low : ∀ x R, x < bit es.length → Reps n es x R → n ≤ sz R + sz x := fun x R hx hR => Reps.many h.g.lt hn8 _ x R hx h8 rfl hR
  intro d
  induction d with
  | zero =>
    intro x R hx hd hR
    have : x = bit es.length - 1 := Classical.byContradiction fun c => by
      have := sub_size (by omega) (sub_all hx) c
      rw [sz_all h8] at this
      omega
    subst this
    have := h.one R hR
    omega
  | succ d ih =>
    intro x R hx hd hR
    have hne : ¬ sub (bit es.length - 1) x := fun c => by
      have := sz_mono c
      rw [sz_all h8] at this
      omega
    obtain ⟨e, he1, he2⟩ := exists_diff hne
    rw [testBit_all, decide_eq_true_eq] at he1
    obtain ⟨Q, hQ⟩ := Reps.ex n es (x ||| bit e)
    have hsz : sz (x ||| bit e) = sz x + 1 := sz_add (by omega) he2
    have hQs := ih (x ||| bit e) Q (or_lt_bit hx (bit_lt_bit he1)) (by omega) hQ
    have hlow := low x R hx hR
    by_cases hj : Jn es x (vA es e) (vB es e)
    · have := Reps.same hj hR hQ
      subst this
      omega
    · have := Reps.less hE he1 hn8 (h.g.lt e he1).1 (h.g.lt e he1).2 hj hR hQ
      omega
theorem IsTr.sz {n : Nat} {es : List (Int × Int)} (h : IsTr n es) {x R : Nat} (hx : x < bit es.length) (hR : Reps n es x R) : sz R + sz x = n := by
  have h8 := h.g.e8
  have := sz_mono (sub_all hx)
  rw [sz_all h8] at this
  exact h.parts (es.length - Proofs.YtdhkobeagfmcnaaDoor.sz x) x R hx (by omega) hR
theorem ins_inside (es : List (Int × Int)) (v : Nat) : Inside es (insT es v es.length) v := fun i hi hx => by
  rw [insT_testBit] at hx
  simp only [inV, Bool.and_eq_true, decide_eq_true_eq] at hx
  exact hx.2
def cnt (es : List (Int × Int)) (v : Nat) : Nat := cntT es v es.length
theorem IsTr.most {n : Nat} {es : List (Int × Int)} (h : IsTr n es) {v d : Nat} (hv : v < bit n) (hd : v.testBit d = true) (hmin : ∀ i, i < 8 → v.testBit i = true → d ≤ i) : cnt es v + 1 ≤ Proofs.YtdhkobeagfmcnaaDoor.sz v ∧ (reachT es (insT es v es.length) d n = v ↔ cnt es v + 1 = Proofs.YtdhkobeagfmcnaaDoor.sz v) := by
  have hn8 : n ≤ 8 := by have := h.g.n7; omega
  have hb := bit_le n hn8
  have hd8 := lt_of_testBit (show v < 256 by omega) hd
  have hdn := lt_m_of_testBit hv hd
  have hx := insT_lt es v es.length
  have hc := insT_sz es v es.length h.g.e8
  obtain ⟨R, hR⟩ := Reps.ex n es (insT es v es.length)
  obtain ⟨C, hC⟩ := Part.ex es (insT es v es.length) d
  have h1 := h.sz hx hR
  have h2 := rest_sz hn8 hv hd hd8
  obtain ⟨h3, h4⟩ := reps_inside h.g hv hd hmin (ins_inside es v) hR hC
  have h5 := sz_mono h3
  have h6 : reachT es (insT es v es.length) d n = C := reachT_part h.g.n7 h.g.lt h.g.pos hdn hC
  unfold cnt
  rw [h6]
  refine ⟨by omega, fun e => ?_, fun e => ?_⟩
  · rw [h4.1 e] at h1
    omega
  · have ht : Tr n es (insT es v es.length) v R := ⟨ins_inside es v, by omega, h1⟩
    have := ((tree_iff h.g hx hv hd hmin hR).1 ht).2
    rw [← h6]; exact this

/-- do vertices hang together by edges between them? -/
def jnV (es : List (Int × Int)) (v : Nat) : Prop := v = 0 ∨ cnt es v + 1 = sz v
instance (es : List (Int × Int)) (v : Nat) : Decidable (jnV es v) := by unfold jnV; infer_instance
theorem IsTr.most' {n : Nat} {es : List (Int × Int)} (h : IsTr n es) {v : Nat} (hv : v < bit n) (h0 : v ≠ 0) : cnt es v + 1 ≤ Proofs.YtdhkobeagfmcnaaDoor.sz v := by
  have hb := bit_le n (by have := h.g.n7; omega)
  obtain ⟨d, _, _, h2, _, h3, _⟩ := low_facts v (by omega) h0
  exact (h.most hv h2 h3).1
theorem cnt_all {n : Nat} {es : List (Int × Int)} (hG : Grf n es) : cnt es (bit n - 1) = es.length := by
  have : ∀ k, k ≤ es.length → cntT es (bit n - 1) k = k := by
    intro k
    induction k with
    | zero => intro _; rfl
    | succ k ih =>
      intro hk
      unfold cntT
      rw [ih (by omega), if_pos]
      unfold inV
      rw [testBit_all, testBit_all]
      have := hG.lt k (by omega)
      simp [this.1, this.2]
  exact this _ (Nat.le_refl _)
theorem degT_pos {es : List (Int × Int)} {s i k : Nat} (h : degAt es s i k = true) : ∀ l, k < l → 1 ≤ degT es s i l
  | 0, hl => by omega
  | l + 1, hl => by
    unfold degT
    by_cases c : k = l
    · subst c; rw [if_pos h]; omega
    · have := degT_pos h l (by omega); omega
theorem nand_all_drop {n s i : Nat} (hi : i < n) (hs : s.testBit i = true) : nand (bit n - 1) (nand s (bit i)) = nand (bit n - 1) s ||| bit i := by
  apply Nat.eq_of_testBit_eq
  intro j
  simp only [nand_testBit, testBit_all, Nat.testBit_or, testBit_bit]
  by_cases c : i = j
  · subst c; simp [hi]
  · simp [c]
theorem nand_all_add {n s i : Nat} : nand (bit n - 1) (s ||| bit i) = nand (nand (bit n - 1) s) (bit i) := by
  apply Nat.eq_of_testBit_eq
  intro j
  simp only [nand_testBit, testBit_all, Nat.testBit_or, testBit_bit]
  by_cases c : i = j
  · subst c; simp
  · simp [c]
/-- an edge leads from those that are left to those that are gone -/
theorem IsTr.edge {n : Nat} {es : List (Int × Int)} (h : IsTr n es) {s : Nat} (hs : s < bit n) (h0 : s ≠ 0) (hC : nand (bit n - 1) s ≠ 0) : ∃ k, k < es.length ∧ s.testBit (vA es k) ≠ s.testBit (vB es k) := by
  have hn8 : n ≤ 8 := by have := h.g.n7; omega
  have hb := bit_le n hn8
  apply Classical.byContradiction
  intro hc
  have hsh : ∀ k, k < es.length → s.testBit (vA es k) = s.testBit (vB es k) := fun k hk => Classical.byContradiction fun c => hc ⟨k, hk, c⟩
  have h1 : cnt es (bit n - 1) + 1 = Proofs.YtdhkobeagfmcnaaDoor.sz (bit n - 1) := by rw [cnt_all h.g, sz_all hn8]; exact h.len
  have hn1 := h.n1
  have hr := (h.most (v := bit n - 1) (d := 0) (by omega) (by rw [testBit_all, decide_eq_true_eq]; omega) (fun i _ _ => Nat.zero_le _)).2.2 h1
  obtain ⟨i, hi8, _, hi, _, _, _⟩ := low_facts s (by omega) h0
  have hin := lt_m_of_testBit hs hi
  have hC8 : nand (bit n - 1) s < 256 := nand_lt _ _ 8 (by show bit n - 1 < 256; omega)
  obtain ⟨j, hj8, _, hj, _, _, _⟩ := low_facts _ hC8 hC
  rw [nand_testBit, testBit_all] at hj
  simp only [Bool.and_eq_true, decide_eq_true_eq, Bool.not_eq_true'] at hj
  cases hs0 : s.testBit 0
  · have hS : Shut es (insT es (bit n - 1) es.length) (nand (bit n - 1) s) := fun k hk _ => by
      rw [nand_testBit, nand_testBit, testBit_all, testBit_all, hsh k hk]
      have := h.g.lt k hk
      simp [this.1, this.2]
    have := reachT_in hS (s := 0) (by rw [nand_testBit, testBit_all, hs0]; simp; omega) n i (by rw [hr, testBit_all, decide_eq_true_eq]; exact hin)
    rw [nand_testBit, hi] at this
    simp at this
  · have hS : Shut es (insT es (bit n - 1) es.length) s := fun k hk _ => hsh k hk
    have := reachT_in hS hs0 n j (by rw [hr, testBit_all, decide_eq_true_eq]; exact hj.1)
    rw [hj.2] at this
    cases this

def treeMay (es : List (Int × Int)) (s i : Nat) : Bool := decide (degT es s i es.length ≤ 1)
theorem IsTr.grown {n : Nat} {es : List (Int × Int)} (h : IsTr n es) {s : Nat} (hs : s < bit n) : Grw n (treeMay es) s ↔ jnV es (nand (bit n - 1) s) := by
  have hn8 : n ≤ 8 := by have := h.g.n7; omega
  have hb := bit_le n hn8
  have hC : ∀ s, nand (bit n - 1) s < bit n := fun s => Nat.lt_of_le_of_lt (nand_le _ _) (by omega)
  constructor
  · intro hg
    clear hs
    induction hg with
    | zero =>
      have e : nand (bit n - 1) 0 = bit n - 1 := by
        apply Nat.eq_of_testBit_eq; intro j; rw [nand_testBit]; simp
      rw [e]
      right
      rw [cnt_all h.g, sz_all hn8]; exact h.len
    | @step s i hg hi hsi hm ih =>
      have hci : (nand (bit n - 1) s).testBit i = true := by rw [nand_testBit, testBit_all, hsi]; simp [hi]
      have hc0 : nand (bit n - 1) s ≠ 0 := fun c => by rw [c] at hci; simp at hci
      have h1 : cnt es (nand (bit n - 1) s) + 1 = Proofs.YtdhkobeagfmcnaaDoor.sz (nand (bit n - 1) s) := ih.resolve_left hc0
      have h2 := deg_cnt h.g hi hsi es.length (Nat.le_refl _)
      have h3 : degT es s i es.length ≤ 1 := by simpa [treeMay] using hm
      have h4 := sz_without (nand (bit n - 1) s) i (by have := hC s; omega) (by omega) hci
      rw [← nand_all_add] at h4
      by_cases c : nand (bit n - 1) (s ||| bit i) = 0
      · exact .inl c
      · have h5 := h.most' (hC _) c
        right
        unfold cnt at h1 h5 ⊢
        omega
  · intro hj
    obtain ⟨d, hd⟩ : ∃ d, d = Proofs.YtdhkobeagfmcnaaDoor.sz s := ⟨_, rfl⟩
    induction d generalizing s with
    | zero =>
      have : s = 0 := Classical.byContradiction fun c => by
        obtain ⟨e, _, _, _, h4⟩ := set_split (show s < 256 by omega) c
        omega
      subst this
      exact .zero
    | succ d ih =>
      have hs0 : s ≠ 0 := fun c => by subst c; rw [sz_zero] at hd; omega
      -- which one goes back
      have hex : ∃ i, s.testBit i = true ∧ (nand (bit n - 1) s ≠ 0 → 1 ≤ degT es (nand s (bit i)) i es.length) := by
        by_cases c : nand (bit n - 1) s = 0
        · obtain ⟨i, _, _, hi, _, _, _⟩ := low_facts s (by omega) hs0
          exact ⟨i, hi, fun h => absurd c h⟩
        · obtain ⟨k, hk, hne⟩ := h.edge hs hs0 c
          cases ha : s.testBit (vA es k)
          · have hb2 : s.testBit (vB es k) = true := by
              cases hb : s.testBit (vB es k)
              · rw [ha, hb] at hne; exact absurd rfl hne
              · rfl
            exact ⟨vB es k, hb2, fun _ => degT_pos (k := k) (by unfold degAt; rw [nand_testBit_bit, nand_testBit_bit, ha]; simp) _ hk⟩
          · have hb2 : s.testBit (vB es k) = false := by
              cases hb : s.testBit (vB es k)
              · rfl
              · rw [ha, hb] at hne; exact absurd rfl hne
            exact ⟨vA es k, ha, fun _ => degT_pos (k := k) (by unfold degAt; rw [nand_testBit_bit, nand_testBit_bit, hb2]; simp) _ hk⟩
      obtain ⟨i, hi, hdeg⟩ := hex
      have hin := lt_m_of_testBit hs hi
      have e1 := nand_all_drop hin hi
      have e2 : nand s (bit i) ||| bit i = s := nand_or_bit hi
      have hsi : (nand s (bit i)).testBit i = false := by rw [nand_testBit_bit]; simp
      have hs' : nand s (bit i) < bit n := Nat.lt_of_le_of_lt (nand_le _ _) hs
      have h4 := sz_without s i (by omega) (by omega) hi
      have h2 := deg_cnt h.g hin hsi es.length (Nat.le_refl _)
      rw [e2] at h2
      have hci : (nand (bit n - 1) s).testBit i = false := by rw [nand_testBit, hi]; simp
      have h5 : Proofs.YtdhkobeagfmcnaaDoor.sz (nand (bit n - 1) (nand s (bit i))) = Proofs.YtdhkobeagfmcnaaDoor.sz (nand (bit n - 1) s) + 1 := by rw [e1]; exact sz_add (by omega) hci
      have h6 := h.most' (hC (nand s (bit i))) (fun c => by rw [c, sz_zero] at h5; omega)
      unfold cnt at h6
      have hj' : jnV es (nand (bit n - 1) (nand s (bit i))) ∧ degT es (nand s (bit i)) i es.length ≤ 1 := by
        by_cases c : nand (bit n - 1) s = 0
        · rw [c, sz_zero] at h5
          exact ⟨.inr (by unfold cnt; omega), by omega⟩
        · have h7 : cnt es (nand (bit n - 1) s) + 1 = Proofs.YtdhkobeagfmcnaaDoor.sz (nand (bit n - 1) s) := hj.resolve_left c
          have h8 := hdeg c
          unfold cnt at h7
          exact ⟨.inr (by unfold cnt; omega), by omega⟩
      have hg := ih hs' hj'.1 (by omega)
      have := Grw.step hg hin hsi (by unfold treeMay; rw [decide_eq_true_eq]; exact hj'.2)
      rwa [e2] at this

end Go.Proofs.YtdhkobeagfmcnaaDoor
