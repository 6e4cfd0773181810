
/-
  A family, opened: its sets as whole numbers, rising, few.
  Minors that are another matroid, plainly. No program in sight.
-/
import Derived.Test.YtmcffbmhkbijlaaPk05
import Derived.Test.YtmcffbmhkbijlaaPk29
import Derived.Test.YtmcffbmhkbijlaaPk30
import Derived.Test.YtmcffbmhkbijlaaPk22
namespace Go.Proofs.Ytmcffbmhkbijlaa
open Go.RowKit
set_option linter.unusedVariables false

theorem fam_pw {m : Nat} {L : List Nat} (h : isFam (m : Int) (ints L)) : L.Pairwise (· < ·) := by
  have hr := h.2.2.rising
  rw [List.pairwise_iff_getElem]
  intro i j hi hj hij
  have := hr i j hij (by rw [ints_len]; exact hj)
  rw [ints_getD, ints_getD] at this
  have e1 : L.getD i 0 = L[i] := by simp [hi]
  have e2 : L.getD j 0 = L[j] := by simp [hj]
  rw [e1, e2] at this
  omega
theorem fam_le {m : Nat} {L : List Nat} (hm : m ≤ 8) (h : isFam (m : Int) (ints L)) : L.length ≤ bit m := by
  have hb := bit_le m hm
  obtain ⟨_, _, hf⟩ := h
  have key : ∀ i, i < L.length → i ≤ L.getD i 0 := by
    intro i
    induction i with
    | zero => intro _; omega
    | succ i ih =>
      intro hi
      have h1 := ih (by omega)
      have h2 := (hf (i + 1) (by rw [ints_len]; exact hi)).2.2 (by omega)
      rw [ints_getD, ints_getD, show i + 1 - 1 = i from rfl] at h2
      omega
  by_cases hz : L.length = 0
  · omega
  · have h3 := key (L.length - 1) (by omega)
    have h4 := (hf (L.length - 1) (by rw [ints_len]; omega)).2.1
    rw [ints_getD, all_nat] at h4
    omega
theorem fam_open {n : Int} {l : List Int} (h : isFam n l) : ∃ (m : Nat) (L : List Nat), n = (m : Int) ∧ m ≤ 8 ∧ l = ints L ∧ (∀ b, b ∈ L → b < bit m) ∧ L.Pairwise (· < ·) ∧ L.length ≤ 256 ∧ isFam (m : Int) (ints L) := by
  obtain ⟨m, rfl⟩ := Int.eq_ofNat_of_zero_le h.1
  have hl := fam_ints h
  have hm : m ≤ 8 := by have := h.2.1; omega
  have hb := bit_le m hm
  have h2 : isFam (m : Int) (ints (toN l)) := by rw [hl]; exact h
  have hlt := fam_lt h
  exact ⟨m, toN l, rfl, hm, hl.symm, by simpa using hlt, fam_pw h2, by have := fam_le hm h2; omega, h2⟩

end Go.Proofs.Ytmcffbmhkbijlaa

namespace Go.Proofs.Ytmcffbmhkbijlaa
set_option linter.unusedVariables false

/-- left are those that are not gone -/
def LeftIs (n gone left : Nat) : Prop := ∀ j, j < n → left.testBit j = !gone.testBit j
theorem left_len {n gone left : Nat} (h : LeftIs n gone left) : ∀ k, k ≤ n → (elemsTo left k).length = cnt gone k := by
  intro k
  induction k with
  | zero => intro _; rfl
  | succ k ih =>
    intro hk
    have ih' := ih (by omega)
    rw [elemsTo_step]
    have hb := h k (by omega)
    cases hg : gone.testBit k
    · rw [hg] at hb
      rw [if_pos (show left.testBit k = true by rw [hb]; rfl), List.length_append, ih', cnt_no hg]; rfl
    · rw [hg] at hb
      rw [if_neg (by rw [hb]; decide), ih', cnt_yes hg]
theorem left_at {n gone left : Nat} (h : LeftIs n gone left) : ∀ k, k ≤ n → ∀ j, j < k → gone.testBit j = false → (elemsTo left k).getD (cnt gone j) 0 = j := by
  intro k
  induction k with
  | zero => intro _ j hj; omega
  | succ k ih =>
    intro hk j hj hg
    have hl := left_len h k (by omega)
    rw [elemsTo_step]
    by_cases e : j = k
    · subst e
      have hb := h j (by omega)
      rw [hg] at hb
      rw [if_pos (show left.testBit j = true by rw [hb]; rfl), ← hl]
      exact getD_snocP_eq _ _
    · have ih' := ih (by omega) j (by omega) hg
      have hlt := cnt_lt (show j < k by omega) hg
      split
      · rw [getD_snocP_lt (by omega)]; exact ih'
      · exact ih'
theorem left_img {n gone left : Nat} (h : LeftIs n gone left) (s : Nat) : img (elemsTo left n) s = spTo gone s n := by
  apply Nat.eq_of_testBit_eq
  intro j
  rw [Bool.eq_iff_iff, img_testBit, spTo_testBit]
  have hl := left_len h n (Nat.le_refl _)
  constructor
  · rintro ⟨t, h1, h2, h3⟩
    rw [hl] at h1
    obtain ⟨i, hi, hg, e⟩ := cnt_onto h1
    subst e
    rw [left_at h n (Nat.le_refl _) i hi hg] at h3
    subst h3
    exact ⟨hi, hg, h2⟩
  · rintro ⟨h1, h2, h3⟩
    exact ⟨cnt gone j, by rw [hl]; exact cnt_lt h1 h2, h3, left_at h n (Nat.le_refl _) j h1 h2⟩
theorem left_nand (n gone : Nat) : LeftIs n gone (nand (bit n - 1) gone) := fun j hj => by
  rw [nand_testBit, testBit_all, decide_eq_true hj]; simp

theorem MatL.fam8' {n r : Nat} {L : List Nat} (h : MatL n L r) : isFam (n : Int) (ints L) := by
  have hn := h.n8
  have hb := bit_le n hn
  have hpw : L.Pairwise (· < ·) := by rw [h.rise]; exact those_pwN _ _
  refine ⟨by omega, by omega, fun i hi => ?_⟩
  rw [ints_len] at hi
  have h1 : L.getD i 0 < bit n := h.lt _ (by simp [hi])
  rw [ints_getD, all_nat]
  refine ⟨by omega, by omega, fun h0 => ?_⟩
  rw [ints_getD]
  have h2 := List.pairwise_iff_getElem.1 hpw (i - 1) i (by omega) hi (by omega)
  have e1 : L.getD (i - 1) 0 = L[i - 1] := by simp [show i - 1 < L.length by omega]
  have e2 : L.getD i 0 = L[i] := by simp [hi]
  omega
theorem toN_ints_eq (L : List Nat) : toN (ints L) = L := by
  apply List.ext_getElem
  · simp [toN, ints]
  · intro i h1 h2; simp [toN, ints]
theorem MatL.is {n r : Nat} {L : List Nat} (h : MatL n L r) : MatIs (n : Int) (ints L) 0 := by
  have hok : okM (n : Int) (ints L) := by
    refine ⟨h.fam8', fun e => h.ne (by cases L with | nil => rfl | cons a t => cases e), fun i hi => ?_⟩
    rw [toN_ints_eq] at hi ⊢
    have h1 : L.getD i 0 ∈ L := by simp [hi]
    have h2 : L.getD 0 0 ∈ L := by simp [show 0 < L.length by omega]
    rw [h.fam.eq _ h1, h.fam.eq _ h2]
  exact ⟨fun c => absurd hok c, fun _ c => absurd (by rw [toN_ints_eq]; exact h.exch) c, fun _ _ => rfl⟩
theorem MatIs.matL {n : Nat} {l : List Int} (h : MatIs (n : Int) l 0) : MatL n (toN l) (sz ((toN l).getD 0 0)) ∧ ints (toN l) = l ∧ (toN l).length ≤ 256 := by
  have hok := h.ok.1
  have hq : ints (toN l) = l := ints_toN (fun i hi => (hok.1.2.2 i hi).1)
  obtain ⟨m, L, e1, hm, e2, hlt, hpw, hlen, _⟩ := fam_open hok.1
  have e3 : n = m := Int.ofNat.inj e1
  subst e3
  subst e2
  rw [toN_ints_eq] at *
  refine ⟨⟨hm, fun e => hok.2.1 (by rw [e]; rfl), by have := hok.fam8; rwa [toN_ints_eq] at this, by have := h.ok.2; rwa [toN_ints_eq] at this, hlt, ?_⟩, rfl, hlen⟩
  exact nat_ext hpw (those_pwN _ _) (fun x => by
    rw [mem_those, memB_iff]
    exact ⟨fun hx => ⟨hlt x hx, hx⟩, fun hx => hx.2⟩)

/-! ### the search -/
/-- what is left where d is deleted and c contracted -/
def mnL (n d c : Nat) (L : List Nat) : List Nat := basesM (cnt (d ||| c) n) (mnR n (d ||| c) c (rk L))
/-- its rank -/
def mnK (n d c : Nat) (L : List Nat) : Nat := rk L (nand (bit n - 1) (d ||| c) ||| c) - rk L c
/-- the first order that makes the one of the other -/
def isoFN (n1 n2 : Nat) (L1 L2 : List Nat) : Option (List Nat) := if n1 = n2 ∧ L1.length = L2.length then (ords n1 L1 L2).head? else none
/-- it is the other one -/
def MnP (n q : Nat) (L K : List Nat) (d c : Nat) : Prop := c &&& d = 0 ∧ cnt (d ||| c) n = q ∧ mnK n d c L = rk K (bit q - 1) ∧ (mnL n d c L).length = K.length ∧ isoFN q q (mnL n d c L) K ≠ none
theorem mnK_full {n d c : Nat} {L : List Nat} : mnR n (d ||| c) c (rk L) (bit (cnt (d ||| c) n) - 1) = mnK n d c L := by
  unfold mnR mnK
  rw [sp_all]
/-- the first that is -/
def FirstM (P : Nat → Nat → Prop) (N : Nat) (r : Option (Nat × Nat)) : Prop := (r = none ∧ ∀ d c, d < N → c < N → ¬ P d c) ∨ ∃ d c, r = some (d, c) ∧ d < N ∧ c < N ∧ P d c ∧ (∀ d' c', d' < d → c' < N → ¬ P d' c') ∧ ∀ c', c' < c → ¬ P d c'
theorem FirstM.uniq {P : Nat → Nat → Prop} {N : Nat} {r s : Option (Nat × Nat)} (h : FirstM P N r) (g : FirstM P N s) : r = s := by
  rcases h with ⟨rfl, h⟩ | ⟨d, c, rfl, h1, h2, h3, h4, h5⟩ <;> rcases g with ⟨rfl, g⟩ | ⟨d', c', rfl, g1, g2, g3, g4, g5⟩
  · rfl
  · exact absurd g3 (h _ _ g1 g2)
  · exact absurd h3 (g _ _ h1 h2)
  · have e1 : ¬ d < d' := fun x => g4 d c x h2 h3
    have e2 : ¬ d' < d := fun x => h4 d' c' x g2 g3
    have e3 : d = d' := by omega
    subst e3
    have e4 : ¬ c < c' := fun x => g5 c x h3
    have e5 : ¬ c' < c := fun x => h5 c' x g3
    have e6 : c = c' := by omega
    subst e6; rfl
theorem FirstM.congr {P Q : Nat → Nat → Prop} {N : Nat} {r : Option (Nat × Nat)} (h : FirstM P N r) (e : ∀ d c, d < N → c < N → (P d c ↔ Q d c)) : FirstM Q N r := by
  rcases h with ⟨h1, h2⟩ | ⟨d, c, h1, h2, h3, h4, h5, h6⟩
  · exact .inl ⟨h1, fun d c hd hc hq => h2 d c hd hc ((e d c hd hc).2 hq)⟩
  · exact .inr ⟨d, c, h1, h2, h3, (e d c h2 h3).1 h4, fun d' c' hd hc hq => h5 d' c' hd hc ((e d' c' (by omega) hc).2 hq), fun c' hc hq => h6 c' hc ((e d c' h2 (by omega)).2 hq)⟩
end Go.Proofs.Ytmcffbmhkbijlaa
