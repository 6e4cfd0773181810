
/-
  Elimination that counts, plainly: all columns have a row of their own iff no one hangs on others. No program in sight.
  kinds.chosen: its function value, which calls itself.
  kinds.inverse, kinds.rankOf.
-/
import Derived.Test.YtffnpokceomncaaPk25
import Derived.Test.YtffnpokceomncaaPk10
import Derived.Test.YtffnpokceomncaaPk02
import Derived.Deep.CutRange
import Derived.Test.YtffnpokceomncaaPk11
import Derived.Test.YtffnpokceomncaaPk24
namespace Go.Proofs.Ytffnpokceomncaa
set_option linter.unusedVariables false

/-- no column hangs on others -/
def ColI (p N q : Nat) (M : Nat → Nat → Int) : Prop := Indep p N q (fun j i => M i j)
/-- the same relations among columns -/
def RelE (p N q : Nat) (M M' : Nat → Nat → Int) : Prop := ∀ a : Nat → Int, (∀ i, i < N → Cg p (isum (fun j => a j * M i j) q) 0) ↔ ∀ i, i < N → Cg p (isum (fun j => a j * M' i j) q) 0
section
variable {p N q : Nat} {M M' M2 P0 : Nat → Nat → Int}
theorem RelE.refl (M : Nat → Nat → Int) : RelE p N q M M := fun _ => Iff.rfl
theorem RelE.trans (h : RelE p N q M M') (g : RelE p N q M' M2) : RelE p N q M M2 := fun a => (h a).trans (g a)
theorem RelE.ind (h : RelE p N q M M') : ColI p N q M ↔ ColI p N q M' := by
  unfold ColI Indep
  exact ⟨fun g a ha => g a ((h a).2 ha), fun g a ha => g a ((h a).1 ha)⟩
theorem RelE.swap {a b : Nat} (ha : a < N) (hb : b < N) : RelE p N q M (fun i => M (swp a b i)) := fun x =>
  ⟨fun h i hi => h _ (swp_lt ha hb hi), fun h i hi => by
    have := h _ (swp_lt ha hb hi)
    simp only [swp_swp] at this
    exact this⟩
/-- a row with so many times another added -/
theorem RelE.more {r s : Nat} (hr : r < N) (hs : s < N) (hne : s ≠ r) {t : Int} (he : ∀ i j, i < N → j < q → i ≠ r → Cg p (M' i j) (M i j)) (h : ∀ j, j < q → Cg p (M' r j) (M r j + t * M s j)) : RelE p N q M M' := fun a => by
  have e1 : ∀ i, i < N → i ≠ r → Cg p (isum (fun j => a j * M' i j) q) (isum (fun j => a j * M i j) q) := fun i hi hir => isum_cg (fun j hj => (Cg.refl _).mul (he i j hi hj hir))
  have e2 : Cg p (isum (fun j => a j * M' r j) q) (isum (fun j => a j * M r j) q + t * isum (fun j => a j * M s j) q) := by
    have h1 : Cg p (isum (fun j => a j * M' r j) q) (isum (fun j => a j * (M r j + t * M s j)) q) := isum_cg (fun j hj => (Cg.refl _).mul (h j hj))
    refine h1.trans (Cg.of_eq ?_)
    rw [← isum_mul, ← isum_add]
    exact isum_congr (fun j _ => by grind)
  constructor
  · intro g i hi
    by_cases c : i = r
    · subst c
      have h2 := (g i hi).add ((Cg.refl t).mul (g s hs))
      rw [Int.mul_zero, Int.add_zero] at h2
      exact e2.trans h2
    · exact (e1 i hi c).trans (g i hi)
  · intro g i hi
    by_cases c : i = r
    · subst c
      have hs' := (e1 s hs hne).symm.trans (g s hs)
      have h2 := e2.symm.trans (g i hi)
      have h3 := h2.add ((Cg.refl (-t)).mul hs')
      rw [Int.mul_zero, Int.add_zero] at h3
      rwa [show isum (fun j => a j * M i j) q + t * isum (fun j => a j * M s j) q + -t * isum (fun j => a j * M s j) q = isum (fun j => a j * M i j) q by grind] at h3
    · exact (e1 i hi c).symm.trans (g i hi)

/-- the first c rows begin one behind the other -/
structure Tri (p N c : Nat) (M : Nat → Nat → Int) : Prop where
  ne : ∀ i, i < c → ¬ Cg p (M i i) 0
  zero : ∀ k i, i < c → i < k → k < N → M k i = 0
theorem Tri.dep (hp : PrimeP p) {c : Nat} (h : Tri p N c M) (hc : c < q) (hcN : c ≤ N) (hz : ∀ k, c ≤ k → k < N → M k c = 0) : ¬ ColI p N q M := by
  have hp2 := hp.le
  have key : ∀ d, d ≤ c → ∃ a : Nat → Int, a c = 1 ∧ (∀ j, c < j → a j = 0) ∧ (∀ j, j < c - d → a j = 0) ∧ ∀ i, c - d ≤ i → i < N → Cg p (isum (fun j => a j * M i j) q) 0 := by
    intro d
    induction d with
    | zero =>
      intro _
      refine ⟨fun j => if j = c then 1 else 0, if_pos rfl, fun j hj => if_neg (by omega), fun j hj => if_neg (by omega), fun i hi hiN => ?_⟩
      have e : isum (fun j => (if j = c then 1 else 0) * M i j) q = isum (fun j => if j = c then M i j else 0) q := isum_congr (fun j _ => by split <;> omega)
      rw [e, isum_pick (g := fun j => M i j) hc, hz i (by omega) hiN]
      exact Cg.refl _
    | succ d ih =>
      intro hd
      obtain ⟨a, a1, a2, a3, a4⟩ := ih (by omega)
      obtain ⟨t, ht⟩ : ∃ t, t = c - (d + 1) := ⟨_, rfl⟩
      have htc : t < c := by omega
      obtain ⟨b, hb⟩ := Cg.inv hp (h.ne t htc)
      obtain ⟨S, hS⟩ : ∃ S, S = isum (fun j => a j * M t j) q := ⟨_, rfl⟩
      have hat : a t = 0 := a3 t (by omega)
      refine ⟨fun j => if j = t then -(S * b) else a j, ?_, fun j hj => ?_, fun j hj => ?_, fun i hi hiN => ?_⟩
      · show (if c = t then _ else a c) = 1
        rw [if_neg (by omega)]; exact a1
      · show (if j = t then _ else a j) = 0
        rw [if_neg (by omega)]; exact a2 j hj
      · show (if j = t then _ else a j) = 0
        rw [if_neg (by omega)]; exact a3 j (by omega)
      · have e : isum (fun j => (if j = t then -(S * b) else a j) * M i j) q = isum (fun j => a j * M i j + (if j = t then -(S * b) * M i j else 0)) q := isum_congr (fun j _ => by
          by_cases c1 : j = t
          · subst c1; rw [if_pos rfl, if_pos rfl, hat]; omega
          · rw [if_neg c1, if_neg c1]; omega)
        rw [e, isum_add, isum_pick (g := fun j => -(S * b) * M i j) (show t < q by omega)]
        by_cases c1 : i = t
        · subst c1
          rw [← hS]
          have h1 : Cg p (-S * (M i i * b)) (-S * 1) := (Cg.refl _).mul hb
          have h2 := (Cg.refl S).add h1
          rw [show S + -S * 1 = 0 by omega] at h2
          rwa [show S + -S * (M i i * b) = S + -(S * b) * M i i by grind] at h2
        · rw [h.zero i t htc (by omega) hiN, Int.mul_zero, Int.add_zero]
          exact a4 i (by omega) hiN
  obtain ⟨a, a1, _, _, a4⟩ := key c (Nat.le_refl _)
  intro hI
  have h1 := hI a (fun x hx => a4 x (by omega) hx) c hc
  rw [a1] at h1
  have h3 := Cg.zero_iff.1 h1
  rw [Int.emod_eq_of_lt (by omega) (by omega)] at h3
  omega
theorem Tri.all (hp : PrimeP p) (h : Tri p N q M) (hq : q ≤ N) : ColI p N q M := fun a ha => by
  have key : ∀ k, k ≤ q → ∀ i, q - k ≤ i → i < q → Cg p (a i) 0 := by
    intro k
    induction k with
    | zero => intro _ i h1 h2; omega
    | succ k ih =>
      intro hk i h1 h2
      by_cases e : q - k ≤ i
      · exact ih (by omega) i e h2
      · have h3 : Cg p (isum (fun j => a j * M i j) q) (a i * M i i) := isum_one (f := fun j => a j * M i j) h2 (fun j hj hji => by
          by_cases c : j < i
          · rw [h.zero i j hj c (by omega), Int.mul_zero]; exact Cg.refl _
          · have := (ih (by omega) j (by omega) hj).mul (Cg.refl (M i j))
            rwa [Int.zero_mul] at this)
        exact Cg.cancel hp (h3.symm.trans (ha i (by omega))) (h.ne i h2)
  exact fun i hi => key q (Nat.le_refl _) i (by omega) hi

/-- ahead of column c, r rows found -/
structure EL (p N q : Nat) (P0 M : Nat → Nat → Int) (c r : Nat) : Prop where
  small : Small p N q M
  rc : r ≤ c
  rN : r ≤ N
  dep : r < c → ¬ ColI p N q P0
  full : r = c → Tri p N c M ∧ RelE p N q P0 M
theorem EL.start (h : Small p N q P0) : EL p N q P0 P0 0 0 := ⟨h, Nat.le_refl _, Nat.zero_le _, fun h => by omega, fun _ => ⟨⟨fun i hi => by omega, fun k i hi => by omega⟩, RelE.refl _⟩⟩
theorem EL.none {c r : Nat} (h : EL p N q P0 M c r) (hp : PrimeP p) (hc : c < q) (hz : ∀ k, r ≤ k → k < N → M k c = 0) : EL p N q P0 M (c + 1) r where
  small := h.small
  rc := by have := h.rc; omega
  rN := h.rN
  dep := fun _ => by
    by_cases e : r = c
    · obtain ⟨h1, h2⟩ := h.full e
      rw [h2.ind]
      exact h1.dep hp hc (by have := h.rN; omega) (fun k hk => hz k (by omega))
    · exact h.dep (by have := h.rc; omega)
  full := fun e => by have := h.rc; omega
theorem EL.swap {c r k : Nat} (h : EL p N q P0 M c r) (h1 : r ≤ k) (h2 : k < N) : EL p N q P0 (fun i => M (swp r k i)) c r where
  small := h.small.swap (by omega) h2
  rc := h.rc
  rN := h.rN
  dep := h.dep
  full := fun e => by
    obtain ⟨g1, g2⟩ := h.full e
    have hlow : ∀ i, i < c → swp r k i = i := fun i hi => by unfold swp; rw [if_neg (by omega), if_neg (by omega)]
    refine ⟨⟨fun i hi => ?_, fun x i hi hx hxN => ?_⟩, g2.trans (RelE.swap (by omega) h2)⟩
    · show ¬ Cg p (M (swp r k i) i) 0
      rw [hlow i hi]; exact g1.ne i hi
    · show M (swp r k x) i = 0
      by_cases c1 : x < c
      · rw [hlow x c1]; exact g1.zero x i hi hx hxN
      · have : c ≤ swp r k x ∧ swp r k x < N := by
          unfold swp
          split
          · omega
          · split <;> omega
        exact g1.zero _ i hi (by omega) this.2
/-- rows behind the found one made less, ahead of i0 -/
structure EE (p N q : Nat) (P0 M : Nat → Nat → Int) (c r i0 : Nat) : Prop where
  small : Small p N q M
  rc : r ≤ c
  dep : r < c → ¬ ColI p N q P0
  full : r = c → Tri p N c M ∧ RelE p N q P0 M ∧ ∀ k, c < k → k < i0 → k < N → M k c = 0
  piv : M r c ≠ 0
theorem EE.start {c r : Nat} (h : EL p N q P0 M c r) (h1 : M r c ≠ 0) : EE p N q P0 M c r (r + 1) := ⟨h.small, h.rc, h.dep, fun e => by
  obtain ⟨g1, g2⟩ := h.full e
  exact ⟨g1, g2, fun k h1 h2 => by omega⟩, h1⟩
theorem EE.step {c r i0 : Nat} (h : EE p N q P0 M c r i0) (hp : PrimeP p) (hc : c < q) (hr : r < i0) (hi : i0 < N) {f t : Int} (hf : (M r c * f) % (p : Int) = 1) (ht : t = M i0 c * f % p) : EE p N q P0 (addT p M i0 r ((p : Int) - t) c q) c r (i0 + 1) := by
  have hp2 := hp.le
  have hlow : ∀ i j, i ≠ i0 → addT p M i0 r ((p : Int) - t) c q i j = M i j := fun i j hx => addT_other hx j
  refine ⟨h.small.add (by omega) _ _ _ _ _, h.rc, h.dep, fun e => ?_, by rw [hlow r c (by omega)]; exact h.piv⟩
  obtain ⟨g1, g2, g3⟩ := h.full e
  have hpast : ∀ j, j < c → addT p M i0 r ((p : Int) - t) c q i0 j = M i0 j := fun j hj => addT_past (by omega)
  refine ⟨⟨fun i hi' => ?_, fun k i hi' hk hkN => ?_⟩, g2.trans (RelE.more (r := i0) (s := r) hi (by omega) (by omega) (t := (p : Int) - t) (fun i j _ _ hx => Cg.of_eq (hlow i j hx)) (fun j hj => ?_)), fun k h1 h2 hkN => ?_⟩
  · rw [hlow i i (by omega)]; exact g1.ne i hi'
  · by_cases d : k = i0
    · rw [d, hpast i hi', ← d]; exact g1.zero k i hi' hk hkN
    · rw [hlow k i d]; exact g1.zero k i hi' hk hkN
  · by_cases d : j < c
    · rw [hpast j d, g1.zero r j d (by omega) (by omega), Int.mul_zero, Int.add_zero]; exact Cg.refl _
    · rw [addT_at (by omega) hj]; exact Cg.mod _
  · by_cases d : k = i0
    · subst d
      rw [addT_at (Nat.le_refl _) hc]
      exact elim_zero (by omega) (by rw [hf, Int.emod_eq_of_lt (by omega) (by omega)]) ht
    · rw [hlow k c d]; exact g3 k h1 (by omega) hkN
theorem EE.done {c r : Nat} (h : EE p N q P0 M c r N) (hc : c < q) (hr : r < N) : EL p N q P0 M (c + 1) (r + 1) where
  small := h.small
  rc := by have := h.rc; omega
  rN := hr
  dep := fun hlt => h.dep (by omega)
  full := fun e => by
    obtain ⟨g1, g2, g3⟩ := h.full (by omega)
    refine ⟨⟨fun i hi => ?_, fun k i hi hk hkN => ?_⟩, g2⟩
    · by_cases d : i = c
      · subst d
        have e2 : r = i := by omega
        subst e2
        exact fun hc' => h.piv ((small_cg (h.small r r hr hc)).1 hc')
      · exact g1.ne i (by omega)
    · by_cases d : i = c
      · subst d; exact g3 k hk hkN hkN
      · exact g1.zero k i (by omega) hk hkN
theorem EL.fin {c r : Nat} (h : EL p N q P0 M c r) (hp : PrimeP p) (hcq : c ≤ q) (hend : c = q ∨ r = N) : r = q ↔ ColI p N q P0 := by
  have h1 := h.rc
  constructor
  · intro e
    obtain ⟨g1, g2⟩ := h.full (by omega)
    rw [g2.ind]
    have e2 : c = q := by omega
    subst e2
    exact g1.all hp (by have := h.rN; omega)
  · intro hI
    by_cases e : r = c
    · obtain ⟨g1, g2⟩ := h.full e
      rcases hend with e2 | e2
      · omega
      · by_cases e3 : c = q
        · omega
        · exact absurd (g2.ind.1 hI) (g1.dep hp (by omega) (by omega) (fun k hk hkN => by omega))
    · exact absurd hI (h.dep (by omega))
end

end Go.Proofs.Ytffnpokceomncaa

namespace Go.Proofs.Ytffnpokceomncaa
open Go.RowKit
set_option linter.unusedVariables false

theorem shr_andC (x k : Nat) (hx : x < 256) : bits .and .i64 ((x : Int) / 2 ^ k) 1 = (((x.testBit k).toNat : Nat) : Int) := by
  have e1 : ((x : Int) / 2 ^ k) = ((x / 2 ^ k : Nat) : Int) := by simp
  have h1 : x / 2 ^ k ≤ x := Nat.div_le_self _ _
  rw [e1]
  have := i64_and (x / 2 ^ k) 1 (by omega) (by omega)
  rw [show ((1 : Nat) : Int) = 1 from rfl] at this
  rw [this, Nat.and_one_is_mod, Nat.toNat_testBit]

end Go.Proofs.Ytffnpokceomncaa

namespace Go.Proofs.Ytffnpokceomncaa
open Go.RowKit
set_option linter.unusedVariables false

set_option maxHeartbeats 1000000 in
theorem c_kInverse (a p : Nat) (hp : PrimeP p) (h0 : 0 < a) (h1 : a < p) : ∃ b : Nat, b < p ∧ ((a : Int) * b) % (p : Int) = 1 ∧ ∀ {B : Nat} {W : World} (u : Later B W),
    Calls Try.prog 62 #[.int .i64 a, .int .i64 p] u.val (Ret B W (.int .i64 b)) := by
  have hp7 := hp.le
  obtain ⟨b0, _, hb0, hbp, hb, hfirst⟩ := inv_first hp a (by omega) h0 h1
  refine ⟨b0, hbp, ?_, ?_⟩
  · rw [show ((a : Int) * b0) = ((a * b0 : Nat) : Int) by simp]
    have : ((a * b0 : Nat) : Int) % (p : Int) = ((a * b0 % p : Nat) : Int) := rfl
    rw [this, hb]; rfl
  intro B W u
  go_enter Try.func62, Try.ntmps62
  go_wp2
  go_loopw [7] (fun i wr => ∃ (k : Nat) (v : Later B W), k ≤ b0 ∧ i = .int .i64 k ∧ wr = v.val) (fun i _ => p - (intOf i).toNat)
  case atStart => exact ⟨0, u, by omega, by first | rfl | go_num, rfl⟩
  case round =>
    obtain ⟨k, v, hk2, rfl, rfl⟩ := hrel
    have hkp : k < p := by omega
    have hm : a * k < 64 := by
      have := Nat.mul_lt_mul'' (show a < 8 by omega) (show k < 8 by omega)
      omega
    have w1 := IntWalk.i64_in ((a : Int) * k) (by
      have e : ((a : Int) * k) = ((a * k : Nat) : Int) := by simp
      omega)
    have e1 : ((a : Int) * k).tmod (p : Int) = ((a * k % p : Nat) : Int) := by
      rw [show ((a : Int) * k) = ((a * k : Nat) : Int) by simp]
      rfl
    have hp0 : (p : Int) ≠ 0 := by omega
    have hml : a * k % p < p := Nat.mod_lt _ (by omega)
    have HF := Lib.hid (hfirst k)
    have hcase : k = b0 ∨ k < b0 := by omega
    rcases hcase with rfl | hlt
    · rw [hb] at e1
      have tm : Int.tmod ((a : Int) * k) (p : Int) = 1 := by simpa using e1
      clear e1 hfirst hb HF hml
      go_wp2
      go_ret
      exact Ret.mk v rfl
    · have hne : a * k % p ≠ 1 := by
        by_cases h : 0 < k
        · exact HF.out hlt h
        · have : k = 0 := by omega
          subst this
          simp
      clear hb hfirst HF
      generalize hr : a * k % p = rr at *
      have f1 : ((rr : Int) == 1) = false := by rw [beq_eq_false_iff_ne]; omega
      have f2 : (rr == 1) = false := by rw [beq_eq_false_iff_ne]; exact hne
      clear hr
      go_wp2
      go_roundw
      case rel => exact ⟨k + 1, v, by omega, by go_num, by trivial⟩
      case measure => simp [intOf]; omega

theorem elemsTo_cut {s n : Nat} (h : s < bit n) : ∀ k, n ≤ k → elemsTo s k = elemsTo s n
  | 0, hk => by rw [show n = 0 by omega]
  | k + 1, hk => by
    by_cases e : n = k + 1
    · rw [e]
    · rw [elemsTo_step, if_neg (by rw [bitN_lt h (show n ≤ k by omega)]; decide)]
      exact elemsTo_cut h k (by omega)
theorem elems_cut {s n : Nat} (h : s < bit n) (hn : n ≤ 8) : elemsTo s n = elems s := (elemsTo_cut h 8 hn).symm
/-- the numbers of a row at the first places of a set -/
def picT (s : Nat) (row : List Int) (j : Nat) : List Int := (elemsTo s j).map (fun e => row.getD e 0)
theorem picT_step (s : Nat) (row : List Int) (j : Nat) : picT s row (j + 1) = if s.testBit j = true then picT s row j ++ [row.getD j 0] else picT s row j := by
  unfold picT
  rw [elemsTo_step]
  split <;> simp
theorem picT_len {s n : Nat} (h : s < bit n) (hn : n ≤ 8) (row : List Int) : (picT s row n).length = (elems s).length := by
  unfold picT
  rw [elems_cut h hn, List.length_map]
theorem picT_get {s n : Nat} (h : s < bit n) (hn : n ≤ 8) (row : List Int) {j : Nat} (hj : j < (elems s).length) : (picT s row n).getD j 0 = row.getD ((elems s).getD j 0) 0 := by
  unfold picT
  rw [elems_cut h hn]
  simp [List.getD_eq_getElem?_getD, List.getElem?_eq_getElem hj]
theorem wpList_pushX {B : Nat} {W w : World} (hw : Below B W w) (hB : B ≤ w.heap.size) {ops : Array Oper} {rest : List Oper} {o : Oper} {a : Act} {Q : Exit → Act → World → Prop} (hgd : o.guard = none) (s x : Operand)
    (ho : o.op = .call { callee := .builtin .append, args := #[s, x], argTypes := #[35, 35] })
    (xs : List Int) (n : Nat) (hn : xs.length = n) (ad : Option Addr) (cap : Nat) (c : Int) (hs : a.eval s = .slice ad n cap) (hown : Own B w ad cap xs)
    (hx : a.eval x = .slice (some ⟨w.heap.size, 0, none⟩) 1 1)
    (hlen : n + 1 ≤ 17592186044416)
    (h : ∀ (u' : Later B W) (ad' : Option Addr) (cap' : Nat), Own B u'.val ad' cap' (xs ++ [c]) → wpList Try.prog ops Q rest (a.put o.dst (.slice ad' (n + 1 : Nat) cap')) u'.val) :
    wpList Try.prog ops Q (o :: rest) a (w.alloc (.cells #[.int .i64 c] 3)) := by
  subst hn
  refine wpList_push hw hB hgd s x ho xs ad cap c hs hown hx hlen (fun u' ad' cap' h' => ?_)
  rw [show (xs ++ [c]).length = xs.length + 1 by simp]
  exact h u' ad' cap' h'

/-- behind the change of two rows -/
def RkCut (b : Nat) (X : World) (p N q : Nat) (P0 : Nat → Nat → Int) (g gc c n : Nat) (w : World) : Prop :=
  ∃ (M : Nat → Nat → Int) (hd : Nat → Option Addr) (r cp : Nat → Nat) (v : Later b X), w = v.val ∧ Mtx b v.val (some ⟨g, 0, none⟩) gc N q hd r cp M ∧ EL p N q P0 M c n ∧ M n c ≠ 0

set_option maxRecDepth 100000 in
set_option maxHeartbeats 16000000 in
theorem c_rankOf {B : Nat} {W : World} (u : Later B W) (p C s : Nat) (rows : Lls) (a : Option Addr) (cap : Nat) (h : RowsI B W a rows) (hp : PrimeP p) (hm : isMatrix (p : Int) (C : Int) rows) (hs : s < bit C) :
    Calls Try.prog 54 #[.agg #[.int .i64 p, .int .i64 C, .slice a rows.length cap], .int .i64 s] u.val (RetP B W (fun v w => ∃ r : Nat, v = .int .i64 r ∧ (r = sz s ↔ rhoC p rows.length (ent rows) s = sz s))) := by
  have hp7 := hp.le
  have hp0 : (p : Int) ≠ 0 := by omega
  have hpn : p ≠ 0 := by omega
  have hN6 : rows.length ≤ 6 := hm.2.2.1
  have hC8 : C ≤ 8 := by have := hm.2.1.2; omega
  have hs8 : s < 256 := by have := bit_le C hC8; omega
  have T0 : Hid (RowL (u.val.alloc (.cells #[.int .i64 p, .int .i64 C, .slice a rows.length cap] 24)) u.val.heap.size 24 [.int .i64 p, .int .i64 C, .slice a rows.length cap]) := Lib.hid (RowL.new _ _ _)
  have HV : Hid (∀ v : Later (u.val.alloc (.cells #[.int .i64 p, .int .i64 C, .slice a rows.length cap] 24)).heap.size (u.val.alloc (.cells #[.int .i64 p, .int .i64 C, .slice a rows.length cap] 24)), ∃ x : Later B W, x.val = v.val) := Lib.hid (fun v => ⟨(u.alloc _).up v, rfl⟩)
  have H : Hid (RowsI (u.val.alloc (.cells #[.int .i64 p, .int .i64 C, .slice a rows.length cap] 24)).heap.size (u.val.alloc (.cells #[.int .i64 p, .int .i64 C, .slice a rows.length cap] 24)) a rows) := Lib.hid (h.to (u.alloc _))
  have hrl : ∀ i, i < rows.length → (rows.getD i []).length = C := fun i hi => by have := (hm.2.2.2 i hi).1; omega
  have hsm : Small p rows.length C (ent rows) := fun i j hi hj => (hm.2.2.2 i hi).2 j (by rw [hrl i hi]; exact hj)
  have HSm := Lib.hid hsm
  have HRl := Lib.hid hrl
  have hql := elems_sz s hs8
  obtain ⟨q, hq⟩ : ∃ q, q = (elems s).length := ⟨_, rfl⟩
  have hq8 : q ≤ 8 := by have := sz_le s; omega
  have HQ := Lib.hid hq
  have HQs : Hid (sz s = q) := Lib.hid (by omega)
  obtain ⟨P0, hP0⟩ : ∃ P0 : Nat → Nat → Int, P0 = fun i j => ent rows i ((elems s).getD j 0) := ⟨_, rfl⟩
  have HP0 : Hid (∀ i j, P0 i j = (rows.getD i []).getD ((elems s).getD j 0) 0) := Lib.hid (fun i j => by rw [hP0]; rfl)
  have hE : ∀ j, j < q → (elems s).getD j 0 < C := fun j hj => by
    have h1 := elems_mem s (show j < (elems s).length by omega)
    apply Classical.byContradiction
    intro hc
    rw [bitN_lt hs (show C ≤ (elems s).getD j 0 by omega)] at h1
    cases h1.2
  have HSp : Hid (Small p rows.length q P0) := Lib.hid (fun i j hi hj => by
    rw [hP0]; exact hsm i _ hi (hE j hj))
  have HRes : Hid (rhoC p rows.length (ent rows) s = sz s ↔ ColI p rows.length q P0) := Lib.hid (by
    rw [← hql, hP0, hq]
    exact mr_indep hp _)
  have HS8 := Lib.hid hs
  clear h hm hrl hsm hql hq hP0 hE hs
  go_enter Try.func54, Try.ntmps54
  go_upto_region 1 with fail
  generalize (u.val.alloc (.cells #[.int .i64 p, .int .i64 C, .slice a rows.length cap] 24)) = X at *
  generalize u.val.heap.size = g0 at *
  clear u
  have x0 : ∀ v : Later X.heap.size X, v.val.cell? ⟨g0, 0, none⟩ = some (.int .i64 p) := fun v => (T0.out.keep v.below).cell rfl
  have x2 : ∀ v : Later X.heap.size X, v.val.cell? ⟨g0, 2, none⟩ = some (.slice a rows.length cap) := fun v => (T0.out.keep v.below).cell rfl
  obtain ⟨z, hz⟩ : ∃ z : Later X.heap.size X, z.val = X := ⟨Later.self _, rfl⟩
  have x2z := x2 z
  rw [← hz]
  clear hz
  go_wp2
  clear x2z
  go_loopw [5, 21] (fun l i wr => ∃ (k : Nat) (v : Later X.heap.size X) (ad : Option Addr) (gc : Nat) (hd : Nat → Option Addr) (r cp : Nat → Nat), k ≤ rows.length ∧ i = .int .i64 k ∧ l = .slice ad k gc ∧ wr = v.val ∧ Hid (Mtx X.heap.size v.val ad gc k q hd r cp P0)) (fun _ i _ => rows.length - (intOf i).toNat)
  case atStart => exact ⟨0, z, none, 0, fun _ => none, fun _ => 0, fun _ => 0, by omega, by first | rfl | go_num, rfl, rfl, Lib.hid (Mtx.start _ _ _ _ _ _ _)⟩
  case round =>
    clear z
    obtain ⟨k, v, ad, gc, hd, r, cp, hk, rfl, rfl, rfl, HM⟩ := hrel
    by_cases hlt : k < rows.length
    · obtain ⟨be, ofe, rfl, hbe, adr, cpr, hI, hn, hcell⟩ := H.out.atN hlt
      have hrk := HRl.out k hlt
      rw [hrk] at hcell
      have c0 := hcell v
      have HI := Lib.hid hI
      have HPk : Hid (∀ j, P0 k j = (rows.getD k []).getD ((elems s).getD j 0) 0) := Lib.hid (fun j => HP0.out k j)
      have HRk := Lib.hid hrk
      clear hcell hI hn hrk
      generalize rows.getD k [] = row at *
      have HAlt : Hid (∀ g, ad = some ⟨g, 0, none⟩ → g < v.val.heap.size) := Lib.hid (fun g hg => by
        rcases HM.out.form with ⟨e1, _⟩ | ⟨g', e1, _, e3⟩
        · rw [hg] at e1; cases e1
        · rw [hg] at e1; cases e1; exact e3)
      have HRlt : Hid (∀ i, i < k → 0 < q → r i < v.val.heap.size) := Lib.hid (fun i hi hC => (HM.out.rlt hC hi).2)
      have hvX := v.size
      obtain ⟨z, hz⟩ : ∃ z : Later v.val.heap.size v.val, z.val = v.val := ⟨Later.self _, rfl⟩
      have HzX : Hid (∀ w : Later v.val.heap.size v.val, ∃ x : Later X.heap.size X, x.val = w.val) := Lib.hid (fun w => ⟨v.up w, rfl⟩)
      go_upto_region 6 with fail
      clear c0
      rw [← hz]
      clear hz
      go_wp2
      go_loopw [8, 27] (fun l i wr => ∃ (j n : Nat) (y : Later v.val.heap.size v.val) (adl : Option Addr) (cpl : Nat), j ≤ C ∧ i = .int .i64 j ∧ l = .slice adl n cpl ∧ wr = y.val ∧ n ≤ j ∧ Hid ((picT s row j).length = n) ∧ Hid (Own v.val.heap.size y.val adl cpl (picT s row j))) (fun _ i _ => C - (intOf i).toNat)
      case atStart => exact ⟨0, 0, z, none, 0, by omega, by first | rfl | go_num, rfl, rfl, by omega, Lib.hid rfl, Lib.hid (Own.nil _ _)⟩
      case round =>
        clear z
        obtain ⟨j, n, y, adl, cpl, hj, rfl, rfl, rfl, hnj, HL, HO⟩ := hrel
        by_cases hjC : j < C
        · obtain ⟨b2, o2, rfl, hb2, hc2⟩ := HI.out.at (show j < row.length by rw [HRk.out]; exact hjC)
          obtain ⟨x, hx⟩ := HzX.out y
          have c1 : y.val.cell? ⟨b2, o2 + j, none⟩ = some (.int .i64 (row.getD j 0)) := by
            rw [← hx]; exact hc2 x j (by rw [HRk.out]; exact hjC)
          have s1 := shr_andC s j hs8
          have bc := bit_cast j
          rw [bc] at s1
          have HPs := Lib.hid (picT_step s row j)
          have hn1 : n + 1 ≤ 17592186044416 := by omega
          clear hc2 hx x
          rcases btf (s.testBit j) with g1 | g1
          · rw [g1] at s1
            have HP1 : Hid (picT s row (j + 1) = picT s row j ++ [row.getD j 0]) := Lib.hid (by rw [HPs.out, if_pos g1])
            clear g1 HPs
            generalize row.getD j 0 = xj at *
            go_wp2_with (first | (at_builtin; refine wpList_pushX (B := v.val.heap.size) (W := v.val) (w := y.val) y.below y.size rfl _ _ rfl (picT s row j) n HL.out adl cpl xj rfl HO.out rfl hn1 ?_; intro u2 ad2 cp2 hown) | fail)
            go_roundw
            case rel => exact ⟨j + 1, n + 1, u2, ad2, cp2, by omega, by go_num, by trivial, by trivial, by omega, Lib.hid (by rw [HP1.out, List.length_append, HL.out]; rfl), Lib.hid (by rw [HP1.out]; exact hown)⟩
            case measure => simp [intOf]; omega
          · rw [g1] at s1
            have HP1 : Hid (picT s row (j + 1) = picT s row j) := Lib.hid (by rw [HPs.out, if_neg (by rw [g1]; decide)])
            clear g1 HPs
            generalize row.getD j 0 = xj at *
            go_wp2
            go_roundw
            case rel => exact ⟨j + 1, n, y, adl, cpl, by omega, by go_num, by trivial, by trivial, by omega, Lib.hid (by rw [HP1.out]; exact HL.out), Lib.hid (by rw [HP1.out]; exact HO.out)⟩
            case measure => simp [intOf]; omega
        · have hje : j = C := by omega
          subst hje
          have hnq : n = q := by rw [← HL.out, HQ.out]; exact picT_len HS8.out hC8 row
          obtain ⟨rr, hRO, hRl⟩ := rowO_of_own HO.out (show (picT s row j).length = q by rw [HL.out]; exact hnq)
          obtain ⟨Qr, hQr⟩ : ∃ Qr, Qr = fun j' => (picT s row j).getD j' 0 := ⟨_, rfl⟩
          have HRO : Hid (RowO X.heap.size y.val q adl rr cpl Qr) := Lib.hid (by rw [hQr]; exact hRO.mono hvX)
          have HMy : Hid (Mtx X.heap.size y.val ad gc k q hd r cp P0) := Lib.hid (HM.out.keep y.below)
          have hRN : 0 < q → (∀ i, i < k → r i ≠ rr) ∧ ∀ g, ad = some ⟨g, 0, none⟩ → rr ≠ g := fun hC => ⟨fun i hi e => by have := HRlt.out i hi hC; have := hRl hC; omega, fun g hg e => by have := HAlt.out g hg; have := hRl hC; omega⟩
          have hBy : X.heap.size ≤ y.val.heap.size := by have := y.size; omega
          have hk1 : k + 1 ≤ 4294967296 := by omega
          have HQr : Hid (∀ j', j' < q → Qr j' = P0 k j') := Lib.hid (fun j' hj' => by
            rw [HPk.out, hQr]; exact picT_get HS8.out hC8 row (by rw [← HQ.out]; exact hj'))
          obtain ⟨xy, hxy⟩ := HzX.out y
          have HXy := Lib.hid hxy
          subst hnq
          clear hRO HO HM HL hxy hQr
          go_wp2_with (first | (at_builtin; refine wpList_pushM (B := X.heap.size) (w := y.val) HMy.out HRO.out hRN hBy (by rfl) _ _ (by rfl) (by rfl) (by rfl) hk1 ?_; intro pp) | fail)
          obtain ⟨x, hx⟩ : ∃ x : Later X.heap.size X, x.val = pp.val := ⟨xy.to pp.val (by rw [HXy.out]; exact pp.below), rfl⟩
          have HMp : Hid (Mtx X.heap.size x.val (some ⟨pp.g, 0, none⟩) pp.gc' (k + 1) n (fun i => if i = k then adl else hd i) (fun i => if i = k then rr else r i) (fun i => if i = k then cpl else cp i) P0) := Lib.hid (by
            rw [hx]
            refine pp.out.congr (fun i j' hi hj' => ?_)
            by_cases e : i = k
            · subst e; simp only [if_true]; exact HQr.out j' hj'
            · simp only [if_neg e])
          go_roundw
          case rel => exact ⟨k + 1, x, _, _, _, _, _, by omega, by go_num, by trivial, hx.symm, HMp⟩
          case measure => simp [intOf]; omega
    · have hke : k = rows.length := by omega
      subst hke
      have HE0 : Hid (EL p rows.length q P0 P0 0 0) := Lib.hid (EL.start HSp.out)
      clear H HSm HRl HP0 HSp x2
      generalize hNe : rows.length = N at *
      have HNe := Lib.hid hNe
      clear hNe
      have KS : Hid (∀ w : Later X.heap.size X, Calls Try.prog 55 #[.int .i64 s] w.val (Ret w.val.heap.size w.val (.int .i64 q))) := Lib.hid (fun w => by
        rw [← HQs.out]; exact c_kSize (Later.self w.val) s hs8)
      go_wp2
      go_loopw [11, 12] (fun rk i wr => ∃ (c n : Nat) (M : Nat → Nat → Int) (hd : Nat → Option Addr) (r cp : Nat → Nat) (v : Later X.heap.size X), c ≤ q ∧ i = .int .i64 c ∧ rk = .int .i64 n ∧ wr = v.val ∧ Hid (Mtx X.heap.size v.val ad gc N q hd r cp M) ∧ Hid (EL p N q P0 M c n)) (fun _ i _ => q - (intOf i).toNat)
      case atStart => exact ⟨0, 0, P0, hd, r, cp, v, by omega, by first | rfl | go_num, by first | rfl | go_num, rfl, HM, HE0⟩
      case round =>
        clear HM HE0 v hd r cp
        obtain ⟨c, n, M, hd, r, cp, v, hc, rfl, rfl, rfl, HM, HE⟩ := hrel
        have hnN := HE.out.rN
        have KSv := Lib.hid (KS.out v)
        by_cases hgo1 : c < q ∧ n < N
        · obtain ⟨hcq, hnl⟩ := hgo1
          have hq0 : 0 < q := by omega
          obtain ⟨g, rfl, hg1, hg2⟩ := HM.out.some' (by omega)
          go_upto_region 18 with (first | (go_at_call 55; (with_reducible refine (KSv.out).mono ?_); rintro e _ ⟨rfl, y, rfl⟩) | fail)
          obtain ⟨v0, hv0⟩ : ∃ v0 : Later X.heap.size X, v0.val = y.val := ⟨v.up y, rfl⟩
          have HM0 : Hid (Mtx X.heap.size v0.val (some ⟨g, 0, none⟩) gc N q hd r cp M) := Lib.hid (by rw [hv0]; exact HM.out.keep y.below)
          rw [← hv0]
          clear hv0 HM KSv
          go_wp2
          go_loopw [13] (fun i wr => ∃ (k : Nat) (v' : Later X.heap.size X), n ≤ k ∧ k ≤ N ∧ i = .int .i64 k ∧ wr = v'.val ∧ Hid (v'.val = v0.val) ∧ Hid (∀ x, n ≤ x → x < k → M x c = 0)) (fun i _ => N - (intOf i).toNat)
          case atStart => exact ⟨n, v0, by omega, by omega, rfl, rfl, Lib.hid rfl, Lib.hid (fun x h1 h2 => by omega)⟩
          case round =>
            obtain ⟨k, v', hnk, hkN, rfl, rfl, HVe, HZe⟩ := hrel
            rw [HVe.out]
            clear HVe v'
            by_cases hkl : k < N
            · have tk : v0.val.cell? ⟨g, k, none⟩ = some (.slice (some ⟨r k, 0, none⟩) q (cp k)) := by rw [HM0.out.tcell hkl, HM0.out.hdr hq0 k hkl]
              have ek := HM0.out.cell hkl hcq
              have hx := HE.out.small k c hkl hcq
              rcases ieq (M k c) 0 with ⟨g1, d1, _⟩ | ⟨g1, d1, _⟩
              · have HZ2 : Hid (∀ x, n ≤ x → x < k + 1 → M x c = 0) := Lib.hid (fun x h1 h2 => by
                  by_cases e : x = k
                  · subst e; exact g1
                  · exact HZe.out x h1 (by omega))
                generalize M k c = mq at *
                go_wp2
                go_roundw
                case rel => exact ⟨k + 1, v0, by omega, by omega, by go_num, by trivial, Lib.hid rfl, HZ2⟩
                case measure => simp [intOf]; omega
              · have HNz := Lib.hid g1
                have f1 : (M k c == 0) = false := by rw [beq_eq_false_iff_ne]; exact g1
                have f4 : ((k : Int) == (N : Int)) = false := by rw [beq_eq_false_iff_ne]; omega
                go_upto_region 22 with fail
                clear f1 f4 ek hx d1 g1
                have tn : v0.val.cell? ⟨g, n, none⟩ = some (.slice (some ⟨r n, 0, none⟩) q (cp n)) := by rw [HM0.out.tcell hnl, HM0.out.hdr hq0 n hnl]
                have fq := HM0.out.tfz k
                have fk := HM0.out.tfz n
                have e1 : (v0.val.setCell ⟨g, n, none⟩ (.slice (some ⟨r k, 0, none⟩) q (cp k))).cell? ⟨g, k, none⟩ = some (.slice (some ⟨r k, 0, none⟩) q (cp k)) := by
                  have h1 := (World.ownsRow.stored HM0.out.top n (.slice (some ⟨r k, 0, none⟩) q (cp k))).1
                  rw [World.ownsRow.cellAt h1 k (by omega)]
                  rw [List.getElem?_set]
                  by_cases e : n = k
                  · subst e; rw [if_pos rfl, if_pos (by simpa using hnl)]
                  · rw [if_neg e]
                    simp [hkl, HM0.out.hdr hq0 k hkl]
                have e2 : (v0.val.setCell ⟨g, n, none⟩ (.slice (some ⟨r k, 0, none⟩) q (cp k))).frozen? ⟨g, k, none⟩ = false := World.ownsRow.frozenAt (World.ownsRow.stored HM0.out.top n (.slice (some ⟨r k, 0, none⟩) q (cp k))).1 k
                obtain ⟨M1, hM1⟩ : ∃ M1, M1 = fun i => M (swp n k i) := ⟨_, rfl⟩
                obtain ⟨v1, hv1⟩ : ∃ v1 : Later X.heap.size X, v1.val = (((v0.val.setCell ⟨g, n, none⟩ (.slice (some ⟨r k, 0, none⟩) q (cp k))).setCell ⟨g, k, none⟩ (.slice (some ⟨r n, 0, none⟩) q (cp n)))).drew := ⟨((v0.set ⟨g, n, none⟩ hg1 _).set ⟨g, k, none⟩ hg1 _).drew, rfl⟩
                have HD2 : Hid (Mtx X.heap.size v1.val (some ⟨g, 0, none⟩) gc N q (fun x => hd (swp n k x)) (fun x => r (swp n k x)) (fun x => cp (swp n k x)) M1) := Lib.hid (by
                  rw [hv1, hM1]
                  have h1 := HM0.out.swap hnl hkl
                  rw [HM0.out.hdr hq0 n hnl, HM0.out.hdr hq0 k hkl] at h1
                  exact h1.keep (Below.refl _ _).drew)
                have HE2 : Hid (EL p N q P0 M1 c n) := Lib.hid (by rw [hM1]; exact HE.out.swap hnk hkl)
                have HNz2 : Hid (M1 n c ≠ 0) := Lib.hid (by
                  rw [hM1]
                  show M (swp n k n) c ≠ 0
                  have : swp n k n = k := by unfold swp; rw [if_pos rfl]
                  rw [this]; exact HNz.out)
                clear HM0 HE HNz HZe hM1
                go_cut [13] from 80 to 93 (fun x_ w_ => x_ = .int .i64 k ∧ RkCut X.heap.size X p N q P0 g gc c n w_)
                case first => as_aux_lemma =>
                  go_big_region
                  all_goals
                    rw [← hv1]
                    clear hv1 tk tn fq fk e1 e2
                    go_wp2
                    go_meet
                    case rel => exact ⟨rfl, _, _, _, _, v1, rfl, HD2.out, HE2.out, HNz2.out⟩
                case rest => as_aux_lemma =>
                  clear HD2 HE2 HNz2 hv1 tk tn fq fk e1 e2
                  obtain ⟨rfl, M1, hd', r', cp', v1, rfl, hD, hE', hNz⟩ := hcut
                  have HD2 := Lib.hid hD
                  have HE2 := Lib.hid hE'
                  have HNz2 := Lib.hid hNz
                  clear hD hE' hNz
                  have hsk := HE2.out.small n c hnl hcq
                  obtain ⟨x, hx⟩ := Int.eq_ofNat_of_zero_le hsk.1
                  have hx0 : 0 < x ∧ x < p := by have := HNz2.out; omega
                  obtain ⟨f, hfp, hf1, hKI⟩ := c_kInverse x p hp hx0.1 hx0.2
                  have HB1 : Hid ((M1 n c * (f : Int)) % (p : Int) = 1) := Lib.hid (by rw [hx]; exact hf1)
                  have KI : Hid (∀ w : Later v1.val.heap.size v1.val, Calls Try.prog 62 #[.int .i64 x, .int .i64 p] w.val (Ret v1.val.heap.size v1.val (.int .i64 f))) := Lib.hid (fun w => hKI w)
                  have a0 : ∀ w : Later v1.val.heap.size v1.val, w.val.cell? ⟨g0, 0, none⟩ = some (.int .i64 p) := fun w => x0 (v1.up w)
                  have ak : ∀ w : Later v1.val.heap.size v1.val, w.val.cell? ⟨g, n, none⟩ = some (.slice (some ⟨r' n, 0, none⟩) q (cp' n)) := fun w => by rw [(HD2.out.keep w.below).tcell hnl, (HD2.out.keep w.below).hdr hq0 n hnl]
                  have ae : ∀ w : Later v1.val.heap.size v1.val, w.val.cell? ⟨r' n, c, none⟩ = some (.int .i64 (x : Int)) := fun w => by rw [← hx]; exact (HD2.out.keep w.below).cell hnl hcq
                  have HEE : Hid (EE p N q P0 M1 c n (n + 1)) := Lib.hid (EE.start HE2.out HNz2.out)
                  obtain ⟨z, hz⟩ : ∃ z : Later v1.val.heap.size v1.val, z.val = v1.val := ⟨Later.self _, rfl⟩
                  rw [← hz]
                  clear hz hf1 hKI hsk hx HE2 HNz2
                  go_wp2
                  refine wp_region_later z (by kernel_rfl) (by kernel_rfl) (fun _ => ?_)
                  repeat (first | go_big_quiet_step (((go_at_call 62; exact KI.out _))) | (refine wpQuiet_step (fun K hK => ?_); go_simp; refine ⟨_, fun _ => rfl, ?_⟩; refine hK _ ?_; clear hK K))
                  refine wpQuiet_nil ?_
                  intro z
                  obtain ⟨v2, hv2⟩ : ∃ v2 : Later X.heap.size X, v2.val = z.val := ⟨v1.to z.val (z.below.mono (by have := v1.size; omega)), rfl⟩
                  have HD3 : Hid (Mtx X.heap.size v2.val (some ⟨g, 0, none⟩) gc N q hd' r' cp' M1) := Lib.hid (by rw [hv2]; exact HD2.out.keep z.below)
                  rw [← hv2]
                  clear a0 ak ae KI hv2 z HD2
                  go_wp2
                  go_loopw [15] (fun i wr => ∃ (i' : Nat) (M4 : Nat → Nat → Int) (v : Later X.heap.size X), n + 1 ≤ i' ∧ i' ≤ N ∧ i = .int .i64 i' ∧ wr = v.val ∧ Hid (Mtx X.heap.size v.val (some ⟨g, 0, none⟩) gc N q hd' r' cp' M4) ∧ Hid (EE p N q P0 M4 c n i') ∧ Hid (M4 n c = M1 n c)) (fun i _ => N - (intOf i).toNat)
                  case atStart => exact ⟨n + 1, M1, v2, by omega, by omega, by go_num, rfl, HD3, HEE, Lib.hid rfl⟩
                  case round =>
                    clear HD3 HEE v2
                    obtain ⟨i, M4, v, hin, hi, rfl, rfl, HD, HE, HPv⟩ := hrel
                    by_cases hil : i < N
                    · have hsi := HE.out.small i c hil hcq
                      have ms := mul_small (a := M4 i c) (b := (f : Int)) (by omega) (by omega)
                      have w1 := IntWalk.i64_in (M4 i c * (f : Int)) (by omega)
                      obtain ⟨tt, htt⟩ : ∃ tt, tt = (M4 i c * (f : Int)) % (p : Int) := ⟨_, rfl⟩
                      have htp : 0 ≤ tt ∧ tt < p := by rw [htt]; exact mod_small p (by omega) _
                      have tm : Int.tmod (M4 i c * (f : Int)) (p : Int) = tt := by rw [htt]; exact Int.tmod_eq_emod_of_nonneg ms.1
                      have HEs : Hid (EE p N q P0 (addT p M4 i n ((p : Int) - tt) c q) c n (i + 1)) := Lib.hid (HE.out.step hp hcq (by omega) hil (by rw [HPv.out]; exact HB1.out) htt)
                      have HPn : Hid (addT p M4 i n ((p : Int) - tt) c q n c = M1 n c) := Lib.hid (by rw [addT_other (by omega)]; exact HPv.out)
                      have a0 : ∀ w : Later v.val.heap.size v.val, w.val.cell? ⟨g0, 0, none⟩ = some (.int .i64 p) := fun w => x0 (v.up w)
                      have ai : ∀ w : Later v.val.heap.size v.val, w.val.cell? ⟨g, i, none⟩ = some (.slice (some ⟨r' i, 0, none⟩) q (cp' i)) := fun w => by rw [(HD.out.keep w.below).tcell hil, (HD.out.keep w.below).hdr hq0 i hil]
                      have ae : ∀ w : Later v.val.heap.size v.val, w.val.cell? ⟨r' i, c, none⟩ = some (.int .i64 (M4 i c)) := fun w => (HD.out.keep w.below).cell hil hcq
                      obtain ⟨z, hz⟩ : ∃ z : Later v.val.heap.size v.val, z.val = v.val := ⟨Later.self _, rfl⟩
                      rw [← hz]
                      clear hz htt HPv
                      generalize M4 i c = mic at *
                      go_wp2
                      refine wp_region_later z (by kernel_rfl) (by kernel_rfl) (fun _ => ?_)
                      repeat (first | go_big_quiet_step ((fail)) | (refine wpQuiet_step (fun K hK => ?_); go_simp; refine ⟨_, fun _ => rfl, ?_⟩; refine hK _ ?_; clear hK K))
                      refine wpQuiet_nil ?_
                      intro z
                      obtain ⟨v1', hv1'⟩ : ∃ v1 : Later X.heap.size X, v1.val = z.val := ⟨v.to z.val (z.below.mono (by have := v.size; omega)), rfl⟩
                      have HDz : Hid (Mtx X.heap.size v1'.val (some ⟨g, 0, none⟩) gc N q hd' r' cp' (addT p M4 i n ((p : Int) - tt) c c)) := Lib.hid (by rw [hv1', addT_start]; exact HD.out.keep z.below)
                      rw [← hv1']
                      clear a0 ai ae hv1' HD ms w1 tm hsi
                      go_wp2
                      go_loopw [17] (fun j wr => ∃ (j' : Nat) (v : Later X.heap.size X), c ≤ j' ∧ j' ≤ q ∧ j = .int .i64 j' ∧ wr = v.val ∧ Hid (Mtx X.heap.size v.val (some ⟨g, 0, none⟩) gc N q hd' r' cp' (addT p M4 i n ((p : Int) - tt) c j'))) (fun j _ => q - (intOf j).toNat)
                      case atStart => exact ⟨c, v1', by omega, by omega, by go_num, rfl, HDz⟩
                      case round =>
                        clear HDz v1'
                        obtain ⟨j, v, hj1, hj2, rfl, rfl, HD⟩ := hrel
                        have ti : v.val.cell? ⟨g, i, none⟩ = some (.slice (some ⟨r' i, 0, none⟩) q (cp' i)) := by rw [HD.out.tcell hil, HD.out.hdr hq0 i hil]
                        by_cases hjq : j < q
                        · have hsi := HE.out.small i j hil hjq
                          have hsk := HE.out.small n j hnl hjq
                          have ms := mul_small (a := (p : Int) - tt) (b := M4 n j) (by omega) (by omega)
                          have w1 := IntWalk.i64_in ((p : Int) - tt) (by omega)
                          have w2 := IntWalk.i64_in (((p : Int) - tt) * M4 n j) (by omega)
                          have w3 := IntWalk.i64_in (M4 i j + ((p : Int) - tt) * M4 n j) (by omega)
                          obtain ⟨nn, hnn⟩ : ∃ nn, nn = (M4 i j + ((p : Int) - tt) * M4 n j) % (p : Int) := ⟨_, rfl⟩
                          have tm : Int.tmod (M4 i j + ((p : Int) - tt) * M4 n j) (p : Int) = nn := by rw [hnn]; exact Int.tmod_eq_emod_of_nonneg (by omega)
                          have a0 : ∀ w : Later v.val.heap.size v.val, w.val.cell? ⟨g0, 0, none⟩ = some (.int .i64 p) := fun w => x0 (v.up w)
                          have ai : ∀ w : Later v.val.heap.size v.val, w.val.cell? ⟨g, i, none⟩ = some (.slice (some ⟨r' i, 0, none⟩) q (cp' i)) := fun w => by rw [(HD.out.keep w.below).tcell hil, (HD.out.keep w.below).hdr hq0 i hil]
                          have ak : ∀ w : Later v.val.heap.size v.val, w.val.cell? ⟨g, n, none⟩ = some (.slice (some ⟨r' n, 0, none⟩) q (cp' n)) := fun w => by rw [(HD.out.keep w.below).tcell hnl, (HD.out.keep w.below).hdr hq0 n hnl]
                          have ei : ∀ w : Later v.val.heap.size v.val, w.val.cell? ⟨r' i, j, none⟩ = some (.int .i64 (M4 i j)) := fun w => by
                            have := (HD.out.keep w.below).cell hil hjq
                            rwa [addT_past (by omega)] at this
                          have ek : ∀ w : Later v.val.heap.size v.val, w.val.cell? ⟨r' n, j, none⟩ = some (.int .i64 (M4 n j)) := fun w => by
                            have := (HD.out.keep w.below).cell hnl hjq
                            rwa [addT_other (by omega)] at this
                          have fi : ∀ w : Later v.val.heap.size v.val, w.val.frozen? ⟨r' i, j, none⟩ = false := fun w => (HD.out.keep w.below).fz hq0 hil j
                          have HDn : Hid (∀ w : Later v.val.heap.size v.val, Mtx X.heap.size (w.val.setCell ⟨r' i, j, none⟩ (.int .i64 nn)) (some ⟨g, 0, none⟩) gc N q hd' r' cp' (addT p M4 i n ((p : Int) - tt) c (j + 1))) := Lib.hid (fun w => by
                            have := (HD.out.keep w.below).set hq0 hil j nn
                            rw [← addT_step _ _ _ _ _ _ _ hj1, ← hnn]
                            exact this)
                          have hri := (HD.out.rlt hq0 hil).1
                          have HVx : Hid (∀ w : Later v.val.heap.size v.val, ∃ x : Later X.heap.size X, x.val = w.val.setCell ⟨r' i, j, none⟩ (.int .i64 nn)) := Lib.hid (fun w => ⟨(v.to w.val (w.below.mono (by have := v.size; omega))).set ⟨r' i, j, none⟩ hri _, rfl⟩)
                          obtain ⟨z, hz⟩ : ∃ z : Later v.val.heap.size v.val, z.val = v.val := ⟨Later.self _, rfl⟩
                          rw [← hz] at ti ⊢
                          clear hz hnn HD hsi hsk ms
                          generalize M4 i j = mij at *
                          generalize M4 n j = mkj at *
                          go_wp2
                          clear ti
                          refine wp_region_later_tail z 29 (by kernel_rfl) (by kernel_rfl) (fun z2 => ?_)
                          simp only [List.take_succ_cons, List.take_zero, List.drop_succ_cons, List.drop_zero]
                          repeat still_step
                          refine wpStill_nil ?_
                          go_wp2
                          obtain ⟨xx, hxx⟩ := HVx.out z2
                          go_roundw
                          case rel => exact ⟨j + 1, xx, by omega, by omega, by go_num, hxx.symm, by rw [hxx]; exact Lib.hid (HDn.out z2)⟩
                          case measure => simp [intOf]; omega
                        · have hje : j = q := by omega
                          subst hje
                          go_wp2
                          go_roundw
                          case rel => exact ⟨i + 1, _, v, by omega, by omega, by go_num, by first | rfl | trivial, HD, HEs, HPn⟩
                          case measure => simp [intOf]; omega
                    · have hie : i = N := by omega
                      subst hie
                      have HEn : Hid (EL p i q P0 M4 (c + 1) (n + 1)) := Lib.hid (HE.out.done hcq hnl)
                      go_wp2
                      go_roundw
                      case rel => exact ⟨c + 1, n + 1, M4, hd', r', cp', v, by omega, by go_num, by go_num, by first | rfl | trivial, HD, HEn⟩
                      case measure => simp [intOf]; omega
            · have hke : k = N := by omega
              subst hke
              have HEn : Hid (EL p k q P0 M (c + 1) n) := Lib.hid (HE.out.none hp hcq (fun x h1 h2 => HZe.out x h1 h2))
              go_wp2
              go_roundw
              case rel => exact ⟨c + 1, n, M, hd, r, cp, v0, by omega, by go_num, by trivial, by first | rfl | trivial, HM0, HEn⟩
              case measure => simp [intOf]; omega
        · have hend : c = q ∨ n = N := by omega
          have HF : Hid (n = sz s ↔ rhoC p N (ent rows) s = sz s) := Lib.hid (by
            rw [HRes.out, HQs.out]; exact HE.out.fin hp hc hend)
          clear HM HE
          by_cases hcq : c < q
          · have hnN2 : n = N := by omega
            subst hnN2
            go_wp2_with (first | (go_at_call 55; (with_reducible refine (KSv.out).mono ?_); rintro e _ ⟨rfl, y, rfl⟩) | fail)
            go_ret
            exact RetP.of (HV.out (v.up y)) ⟨n, rfl, by rw [HNe.out]; exact HF.out⟩
          · have hce : c = q := by omega
            subst hce
            go_wp2_with (first | (go_at_call 55; (with_reducible refine (KSv.out).mono ?_); rintro e _ ⟨rfl, y, rfl⟩) | fail)
            go_ret
            exact RetP.of (HV.out (v.up y)) ⟨n, rfl, by rw [HNe.out]; exact HF.out⟩

end Go.Proofs.Ytffnpokceomncaa
