
/-
  Heaviest sets of each size, plainly: how the two rows grow. No program in sight.
  An appended row of whole numbers as a table; two such rows side by side.
-/
import Derived.Test.YtenbeiafdiifgaaPk30
import Derived.Test.YtenbeiafdiifgaaPk09
import Derived.Test.YtenbeiafdiifgaaPk08
import Derived.Laws.OwnMore
import Derived.Deep.AppendLies
namespace Go.Proofs.Ytenbeiafdiifgaa
set_option linter.unusedVariables false

/-- what stands in the two rows when the sets below K have been looked at -/
structure HvI (X Y : Nat → Nat) (f : Nat → Int) (m : Nat) (A G : Nat → Int) (K : Nat) : Prop where
  top : ∀ t, t < K → ComP X Y t → sz t < m
  has : 0 < m → ∃ t, t < K ∧ ComP X Y t ∧ sz t + 1 = m
  best : ∀ j, j < m → BestOn (fun t => (ComP X Y t ∧ sz t = j) ∧ t < K) f (A j)
  val : ∀ j, j < m → 0 ≤ A j → G j = f (A j).toNat
def wdA (m : Nat) (A : Nat → Int) (d : Int) (j : Nat) : Int := if j < m then A j else d
theorem HvI.zero (X Y : Nat → Nat) (f : Nat → Int) (A G : Nat → Int) : HvI X Y f 0 A G 0 := ⟨fun t h => by omega, fun h => by omega, fun j h => by omega, fun j h => by omega⟩
theorem HvI.skip {X Y : Nat → Nat} {f : Nat → Int} {m K : Nat} {A G : Nat → Int} (h : HvI X Y f m A G K) (hK : ¬ ComP X Y K) : HvI X Y f m A G (K + 1) where
  top := fun t ht hc => by
    by_cases e : t = K
    · subst e; exact absurd hc hK
    · exact h.top t (by omega) hc
  has := fun hm => by
    obtain ⟨t, h1, h2, h3⟩ := h.has hm
    exact ⟨t, by omega, h2, h3⟩
  best := fun j hj => (h.best j hj).up_no (fun c => hK c.1)
  val := h.val
theorem HvI.wide {X Y : Nat → Nat} {f : Nat → Int} {m K : Nat} {A G : Nat → Int} (h : HvI X Y f m A G K) (j : Nat) : BestOn (fun t => (ComP X Y t ∧ sz t = j) ∧ t < K) f (wdA m A (-1) j) ∧ (0 ≤ wdA m A (-1) j → wdA m G 0 j = f (wdA m A (-1) j).toNat) := by
  unfold wdA
  by_cases c : j < m
  · rw [if_pos c, if_pos c]; exact ⟨h.best j c, h.val j c⟩
  · rw [if_neg c, if_neg c]
    exact ⟨BestOn.none (fun t ht => by have := h.top t ht.2 ht.1.1; have := ht.1.2; omega), fun g => by omega⟩
theorem HvI.has_up {X Y : Nat → Nat} {f : Nat → Int} {m K m1 : Nat} {A G : Nat → Int} (h : HvI X Y f m A G K) (hc : ComP X Y K) (hm : m ≤ m1) (hk : sz K < m1) (hm1 : m1 = m ∨ m1 ≤ sz K + 1) : (∀ t, t < K + 1 → ComP X Y t → sz t < m1) ∧ (0 < m1 → ∃ t, t < K + 1 ∧ ComP X Y t ∧ sz t + 1 = m1) := by
  refine ⟨fun t ht hp => ?_, fun h0 => ?_⟩
  · by_cases e : t = K
    · subst e; exact hk
    · have := h.top t (by omega) hp; omega
  · rcases hm1 with rfl | hm1
    · obtain ⟨t, h1, h2, h3⟩ := h.has h0
      exact ⟨t, by omega, h2, h3⟩
    · exact ⟨K, by omega, hc, by omega⟩
/-- a better one -/
theorem HvI.take {X Y : Nat → Nat} {f : Nat → Int} {m K m1 : Nat} {A G : Nat → Int} (h : HvI X Y f m A G K) (hc : ComP X Y K) (hm : m ≤ m1) (hk : sz K < m1) (hm1 : m1 = m ∨ m1 ≤ sz K + 1) (hb : wdA m A (-1) (sz K) < 0 ∨ wdA m G 0 (sz K) < f K) :
    HvI X Y f m1 (fun j => if j = sz K then (K : Int) else wdA m A (-1) j) (fun j => if j = sz K then f K else wdA m G 0 j) (K + 1) where
  top := (h.has_up hc hm hk hm1).1
  has := (h.has_up hc hm hk hm1).2
  best := fun j hj => by
    show BestOn _ f (if j = sz K then (K : Int) else wdA m A (-1) j)
    by_cases e : j = sz K
    · subst e
      rw [if_pos rfl]
      refine (h.wide _).1.up_new ⟨hc, rfl⟩ ?_
      by_cases c : wdA m A (-1) (sz K) < 0
      · exact .inl c
      · right
        rcases hb with hb | hb
        · exact absurd hb c
        · have := (h.wide (sz K)).2 (by omega)
          exact ⟨(wdA m A (-1) (sz K)).toNat, by omega, by omega⟩
    · rw [if_neg e]
      exact (h.wide j).1.up_no (fun c => e c.2.symm)
  val := fun j hj => by
    show 0 ≤ (if j = sz K then (K : Int) else wdA m A (-1) j) → (if j = sz K then f K else wdA m G 0 j) = f (if j = sz K then (K : Int) else wdA m A (-1) j).toNat
    by_cases e : j = sz K
    · rw [if_pos e, if_pos e]; intro _; rw [Int.toNat_natCast]
    · rw [if_neg e, if_neg e]; exact (h.wide j).2
/-- none better -/
theorem HvI.stay {X Y : Nat → Nat} {f : Nat → Int} {m K m1 : Nat} {A G : Nat → Int} (h : HvI X Y f m A G K) (hc : ComP X Y K) (hm : m ≤ m1) (hk : sz K < m1) (hm1 : m1 = m ∨ m1 ≤ sz K + 1) (hb : ¬ wdA m A (-1) (sz K) < 0) (hg : ¬ wdA m G 0 (sz K) < f K) :
    HvI X Y f m1 (wdA m A (-1)) (wdA m G 0) (K + 1) where
  top := (h.has_up hc hm hk hm1).1
  has := (h.has_up hc hm hk hm1).2
  best := fun j hj => by
    by_cases e : j = sz K
    · subst e
      have h1 := (h.wide (sz K)).1
      have h2 := (h.wide (sz K)).2 (by omega)
      obtain ⟨q, hq⟩ : ∃ q : Nat, wdA m A (-1) (sz K) = q := ⟨_, (Int.toNat_of_nonneg (by omega)).symm⟩
      rw [hq] at h1 h2 ⊢
      refine h1.up_keep ?_
      rw [Int.toNat_natCast] at h2
      omega
    · exact (h.wide j).1.up_no (fun c => e c.2.symm)
  val := fun j hj => (h.wide j).2
/-- at the end -/
theorem HvI.done {n m : Nat} {X Y : Nat → Nat} {f : Nat → Int} {A G : Nat → Int} (h : HvI X Y f m A G (bit n)) (hX : X 0 = 0) (hY : Y 0 = 0) : m = sz (setTo X Y (bit n)) + 1 := by
  have hc := setTo_com hX hY (bit n)
  have hp : 0 < bit n := Nat.two_pow_pos n
  have hlt : setTo X Y (bit n) < bit n := by rcases hc.2 with h | h <;> omega
  have h1 := h.top _ hlt hc.1
  obtain ⟨t, h2, h3, h4⟩ := h.has (by omega)
  have := setTo_most (bit n) t h2 h3
  omega
end Go.Proofs.Ytenbeiafdiifgaa

namespace Go.Proofs.Ytenbeiafdiifgaa
open Go.RowKit
set_option linter.unusedVariables false

/-! an appended row of whole numbers, as a table -/
theorem Own.cellT {B : Nat} {w : World} {g cap n : Nat} {A : Nat → Int} (h : Own B w (some ⟨g, 0, none⟩) cap (tabL n A)) {i : Nat} (hi : i < n) : w.cell? ⟨g, i, none⟩ = some (.int .i64 (A i)) := by
  unfold Own at h
  rw [World.ownsRow.cellAt h i (by rw [tabL_len]; omega)]
  simp [tabL, hi]
theorem Own.frozenT {B : Nat} {w : World} {g cap : Nat} {xs : List Int} (h : Own B w (some ⟨g, 0, none⟩) cap xs) (i : Nat) : w.frozen? ⟨g, i, none⟩ = false := World.ownsRow.frozenAt h i
theorem Own.ltT {B : Nat} {w : World} {g cap : Nat} {xs : List Int} (h : Own B w (some ⟨g, 0, none⟩) cap xs) : B ≤ g ∧ g < w.heap.size := World.ownsRow.lt h g rfl
theorem Own.setT {B : Nat} {w : World} {g cap n : Nat} {A A' : Nat → Int} (h : Own B w (some ⟨g, 0, none⟩) cap (tabL n A)) (i : Nat) (v : Int) (e : ∀ j, j < n → A' j = if j = i then v else A j) : Own B (w.setCell ⟨g, i, none⟩ (.int .i64 v)) (some ⟨g, 0, none⟩) cap (tabL n A') := by
  unfold Own at h ⊢
  rw [tabL_len] at h ⊢
  have := (World.ownsRow.stored h i (.int .i64 v)).1
  rwa [show (tabL n A').map (Value.int .i64) = ((tabL n A).map (Value.int .i64)).set i (.int .i64 v) from by
    apply List.ext_getElem
    · simp [tabL]
    · intro k h1 h2
      simp [tabL] at h1
      rw [List.getElem_set]
      simp only [tabL, List.getElem_map, List.getElem_range]
      rw [e k h1]
      by_cases c : k = i
      · subst c; simp
      · rw [if_neg c, if_neg (fun h => c h.symm)]]

/-- in blocks of their own -/
def Apart (a b : Option Addr) : Prop := ∀ x y, a = some x → b = some y → x.block ≠ y.block
theorem Apart.symm {a b : Option Addr} (h : Apart a b) : Apart b a := fun x y hx hy e => h y x hy hx e.symm
theorem Apart.none (b : Option Addr) : Apart none b := fun x y hx => by cases hx
theorem Own.setO {B : Nat} {w : World} {ad : Option Addr} {cap : Nat} {xs : List Int} (h : Own B w ad cap xs) {g i : Nat} (hg : ∀ x, ad = some x → g ≠ x.block) (x : Value) : Own B (w.setCell ⟨g, i, none⟩ x) ad cap xs := by
  refine h.kept (row := some g) ⟨rfl, rfl, rfl, by simp, fun k hk hne => Below.heap_setCell _ _ _ _ (by rintro rfl; exact hne rfl)⟩ ?_
  cases ad with
  | none => exact .inl rfl
  | some a =>
    right
    intro e
    have : a.block = g := by simpa [Value.ownBlock] using e
    exact hg a rfl this.symm
theorem Own.blk {B : Nat} {w : World} {ad : Option Addr} {cap : Nat} {xs : List Int} (h : Own B w ad cap xs) : ∀ x, ad = some x → B ≤ x.block ∧ x.block < w.heap.size := fun x hx => by
  subst hx
  exact World.ownsRow.lt h x.block rfl

/-- append of one number to a row of the call's own: another such row is left alone -/
theorem wpList_push2 {B : Nat} {W w : World} (hw : Below B W w) (hB : B ≤ w.heap.size) {ops : Array Oper} {rest : List Oper} {o : Oper} {a : Act} {Q : Exit → Act → World → Prop} (hgd : o.guard = none) (s x : Operand)
    (ho : o.op = .call { callee := .builtin .append, args := #[s, x], argTypes := #[22, 22] })
    (xs : List Int) (n : Nat) (hn : xs.length = n) (ad : Option Addr) (cap : Nat) (y : Int) (hs : a.eval s = .slice ad n cap) (hown : Own B w ad cap xs)
    (hx : a.eval x = .slice (some ⟨w.heap.size, 0, none⟩) 1 1)
    (hlen : n + 1 ≤ 17592186044416)
    (h : ∀ (u' : Later B W) (g cap' : Nat), Own B u'.val (some ⟨g, 0, none⟩) cap' (xs ++ [y]) → (∀ (ad2 : Option Addr) (cp2 : Nat) (ys : List Int), Own B w ad2 cp2 ys → Apart ad ad2 → Own B u'.val ad2 cp2 ys ∧ Apart (some ⟨g, 0, none⟩) ad2) → wpList Try.prog ops Q rest (a.put o.dst (.slice (some ⟨g, 0, none⟩) (n + 1 : Nat) cap')) u'.val) :
    wpList Try.prog ops Q (o :: rest) a (w.alloc (.cells #[.int .i64 y] 3)) := by
  subst hn
  obtain ⟨i0, hi, hz0, hz1, hz2⟩ := info_parts info_int
  refine wpList_append_lies _ hgd s x 22 ho B 3 i0 (.int .i64 0) 1 8 Try.underlying22 hi hz0 hz1 hz2 rfl (by decide) _ xs.length (xs.map (Value.int .i64)) hs (hown.alloc _) ⟨w.heap.size, 0, none⟩ 1 1 [.int .i64 y] hx rfl ?_ ?_ (by decide) (by unfold maxLen; omega) (by omega) (by simp; omega) (w.heap.size + 1) (by simp) ?_
  · intro j v hj
    have hj0 : j = 0 := by
      have := (List.getElem?_eq_some_iff.1 hj).1
      simp at this
      omega
    subst hj0
    have e : (⟨w.heap.size, 0, none⟩ : Addr).add 0 = ⟨w.heap.size, 0, none⟩ := by unfold Addr.add; split <;> simp_all
    rw [e]
    simp at hj
    subst hj
    exact cell_one_new w _ 3 0 _ rfl
  · intro v hv
    simp at hv
    subst hv
    rfl
  · intro g cap' w' h2 h3 h4 h5
    have hO : Own B w' (some ⟨g, 0, none⟩) cap' (xs ++ [y]) := by
      show w'.ownsRow B 3 1 (.slice (some ⟨g, 0, none⟩) (xs ++ [y]).length cap') (xs ++ [y]).length _
      rw [List.length_append, List.map_append]
      exact h2
    refine h ⟨w', own_below (hw.alloc hB _) (by simp; omega) (hown.alloc _) h3, by have := h3.size; simp at this; omega⟩ g cap' hO (fun ad2 cp2 ys ho2 hap => ⟨?_, ?_⟩)
    · refine (ho2.alloc _).kept h3 ?_
      cases ad2 with
      | none => exact .inl rfl
      | some b =>
        right
        intro e
        have e' : (Value.slice ad xs.length cap).ownBlock = some b.block := e.symm
        cases ad with
        | none => cases e'
        | some a0 =>
          have : a0.block = b.block := by simpa [Value.ownBlock] using e'
          exact hap a0 b rfl rfl this
    · intro p q hp hq
      subst hq
      have hlt := (ho2.blk q rfl).2
      have hpg : p.block = g := by cases hp; rfl
      rw [hpg]
      rcases h4 with h4 | h4
      · cases ad with
        | none => cases h4
        | some a0 =>
          have e2 : a0.block = g := by simpa [Value.ownBlock] using h4
          rw [← e2]
          exact hap a0 q rfl rfl
      · omega
end Go.Proofs.Ytenbeiafdiifgaa
