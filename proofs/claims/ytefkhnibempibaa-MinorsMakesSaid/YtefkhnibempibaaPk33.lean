
/-
  slices.Sort, Compact, Clone at lists of numbers, over rows of the call's own.
  minors.made.
-/
import Derived.Test.YtefkhnibempibaaPk32
import Derived.Test.YtefkhnibempibaaPk20
import Derived.Sort.OwnSortedInts
import Derived.Test.YtefkhnibempibaaPk05
import Derived.Test.YtefkhnibempibaaPk15
namespace Go.Proofs.Ytefkhnibempibaa
open Go.RowKit Go.Sort
set_option linter.unusedVariables false

/-- what a row of the call's own is -/
theorem Own.open {B : Nat} {w : World} {ad : Option Addr} {cap : Nat} {xs : List Int} (h : Own B w ad cap xs) : (ad = none ∧ cap = 0 ∧ xs = []) ∨ ∃ g cur, ad = some ⟨g, 0, none⟩ ∧ B ≤ g ∧ w.heap[g]? = some (.cells cur 3 (0, 0)) ∧ xs.length ≤ cap ∧ cap ≤ maxLen ∧ cur.size = cap * 1 ∧ cur.toList.take (xs.length * 1) = xs.map (Value.int .i64) := by
  rcases h.2 with ⟨e, hn⟩ | ⟨g, c, cur, e, h1, h2, h3, h4, h5, h6⟩
  · left
    simp only [Value.slice.injEq] at e
    exact ⟨e.1, e.2.2, List.length_eq_zero_iff.1 hn⟩
  · right
    simp only [Value.slice.injEq] at e
    obtain ⟨e1, _, e3⟩ := e
    subst e3
    exact ⟨g, cur, e1, h1, h2, h3, h4, h5, h6⟩
theorem Own.first {B : Nat} {w : World} {ad : Option Addr} {cap : Nat} {xs ys : List Int} (h : Own B w ad cap (xs ++ ys)) : Own B w ad cap xs := by
  rcases h.open with ⟨rfl, rfl, e⟩ | ⟨g, cur, rfl, h1, h2, h3, h4, h5, h6⟩
  · have : xs = [] := by
      cases xs with
      | nil => rfl
      | cons a t => cases e
    subst this
    exact Own.nil _ _
  · have hlen : xs.length ≤ (xs ++ ys).length := by simp
    refine ⟨by simp, .inr ⟨g, cap, cur, rfl, h1, h2, by omega, h4, h5, ?_⟩⟩
    have h7 := congrArg (List.take xs.length) h6
    rw [List.take_take, List.map_append] at h7
    rw [Nat.mul_one]
    rw [Nat.mul_one, Nat.min_eq_left hlen] at h7
    rw [h7, List.take_append_of_le_length (by simp)]
    exact List.take_of_length_le (by simp)

theorem c_sort {B : Nat} {W : World} (u : Later B W) (xs : List Int) (ad : Option Addr) (cap : Nat) (ho : Own B u.val ad cap xs) (hlen : xs.length ≤ 17592186044416) :
    Calls Try.prog 51 #[.slice ad xs.length cap] u.val (fun e w' => e = .returned (.tuple #[]) ∧ ∃ v : Later B W, w' = v.val ∧ Own B v.val ad cap (srt xs) ∧ (∀ k, k < u.val.heap.size → (∀ off, ad ≠ some ⟨k, off, none⟩) → v.val.heap[k]? = u.val.heap[k]?)) := by
  rcases ho.open with ⟨rfl, rfl, rfl⟩ | ⟨g, cur, rfl, h1, h2, h3, h4, h5, h6⟩
  · refine (Try.slices_Sort_int_none none 0 u.val).mono ?_
    rintro e w ⟨rfl, rfl⟩
    exact ⟨rfl, u, rfl, by have : srt [] = [] := by simp [srt]
                           rw [this]; exact Own.nil _ _, fun k hk _ => rfl⟩
  · have hH := holds_of_blockI (ss := xs) h2 (by simpa using h6)
    have hg : g < u.val.heap.size := (Array.getElem?_eq_some_iff.1 h2).1
    refine (Try.slices_Sort_int g 0 cap xs u.val hH hg (by omega)).mono ?_
    rintro e w ⟨rfl, n, os, rfl⟩
    have hgr := grownBy_sortedI (w := u.val) (g := g) (n := n) (os := os) (srt xs).toArray
    refine ⟨rfl, ⟨_, own_below u.below u.size ho hgr, Nat.le_trans u.size hgr.size⟩, rfl, ?_, fun k hk hne => hgr.block k hk (fun e => hne 0 (by cases e; rfl))⟩
    have := ownsRow_sortedI (n := n) (os := os) (ss := xs) (ts := srt xs) (srt_len xs) h1 h2 h3 h4 h5
    show World.ownsRow _ B 3 1 (.slice _ (srt xs).length cap) (srt xs).length _
    rw [srt_len]
    exact this

theorem cpt_len (xs : List Int) : (cpt xs).length ≤ xs.length := by
  rw [cpt_eq, List.length_map]
  have := List.length_filter_le (fun j => decide (j = 0 ∨ xs.getD j 0 ≠ xs.getD (j - 1) 0)) (List.range xs.length)
  simpa using this
theorem c_compact {B : Nat} {W : World} (u : Later B W) (xs : List Int) (ad : Option Addr) (cap : Nat) (ho : Own B u.val ad cap xs) :
    Calls Try.prog 52 #[.slice ad xs.length cap] u.val (fun e w' => e = .returned (.slice ad (cpt xs).length cap) ∧ ∃ v : Later B W, w' = v.val ∧ Own B v.val ad cap (cpt xs) ∧ (∀ k, k < u.val.heap.size → (∀ off, ad ≠ some ⟨k, off, none⟩) → v.val.heap[k]? = u.val.heap[k]?)) := by
  rcases ho.open with ⟨rfl, rfl, rfl⟩ | ⟨g, cur, rfl, h1, h2, h3, h4, h5, h6⟩
  · refine (Try.slices_Compact_int_empty none 0 u.val).mono ?_
    rintro e w ⟨rfl, rfl⟩
    exact ⟨rfl, u, rfl, Own.nil _ _, fun k hk _ => rfl⟩
  · have hH := holds_of_blockI (ss := xs) h2 (by simpa using h6)
    have hl := cpt_len xs
    refine (Try.slices_Compact_int g 0 cap xs u.val hH (by unfold maxLen at h4; omega) h3).mono ?_
    rintro e w ⟨rfl, q, rfl⟩
    have hgr := grownBy_sortedI (w := u.val) (g := g) (n := q) (os := #[]) (cpt xs ++ List.replicate (xs.length - (cpt xs).length) 0).toArray
    have hlen : (cpt xs ++ List.replicate (xs.length - (cpt xs).length) 0).length = xs.length := by simp; omega
    have hown := ownsRow_sortedI (n := q) (os := #[]) (ss := xs) (ts := cpt xs ++ List.replicate (xs.length - (cpt xs).length) 0) hlen h1 h2 h3 h4 h5
    have e0 : ∀ w : World, grow w #[] = w := fun w => by simp [grow]
    rw [e0] at hgr hown
    refine ⟨rfl, ⟨_, own_below u.below u.size ho hgr, Nat.le_trans u.size hgr.size⟩, rfl, ?_, fun k hk hne => hgr.block k hk (fun e => hne 0 (by cases e; rfl))⟩
    have h7 : Own B (putRow (Value.int .i64) (Sort.ahead u.val q) g 0 (cpt xs ++ List.replicate (xs.length - (cpt xs).length) 0).toArray) (some ⟨g, 0, none⟩) cap (cpt xs ++ List.replicate (xs.length - (cpt xs).length) 0) := by
      show World.ownsRow _ B 3 1 (.slice _ _ cap) _ _
      rw [hlen]
      exact hown
    exact h7.first

theorem c_clone {B : Nat} {W : World} (u : Later B W) (xs : List Int) (a : Option Addr) (cap : Nat) (h : IntsAt B W a xs) (hlen : xs.length ≤ 17592186044416) :
    Calls Try.prog 46 #[.slice a xs.length cap] u.val (RetOwn B W xs) := by
  cases a with
  | none =>
    have : xs = [] := by
      by_cases e : xs = []
      · exact e
      · obtain ⟨b, off, e2, _⟩ := h e; cases e2
    subst this
    refine (Try.slices_Clone_int_nil 0 cap u.val).mono ?_
    rintro e w ⟨rfl, rfl⟩
    exact RetP.mk u ⟨none, 0, rfl, Own.nil _ _⟩
  | some p =>
    have fin : ∀ (v' : Value) (w' : World), w'.ownsRow u.val.heap.size 3 1 v' xs.length (xs.map (Value.int .i64)) → Below u.val.heap.size u.val w' → RetOwn B W xs (.returned v') w' := by
      intro v' w' ho hb
      have hsz : u.val.heap.size ≤ w'.heap.size := hb.size
      refine ⟨v', rfl, ?_, ⟨w', u.below.trans (hb.mono u.size), Nat.le_trans u.size hsz⟩, rfl⟩
      have ho' := ho
      rcases ho.2 with ⟨e, hn⟩ | ⟨g, c, cur, e, h1, h2, h3, h4, h5, h6⟩
      · subst e
        have : xs = [] := List.length_eq_zero_iff.1 hn
        subst this
        exact ⟨none, 0, rfl, Own.nil _ _⟩
      · subst e
        exact ⟨some ⟨g, 0, none⟩, c, rfl, ho.1, .inr ⟨g, c, cur, rfl, Nat.le_trans u.size h1, h2, h3, h4, h5, h6⟩⟩
    by_cases hx : xs = []
    · subst hx
      refine (Try.slices_Clone_int_zero p cap u.val).mono ?_
      rintro e w ⟨v', rfl, ho, _, hb⟩
      exact fin v' w ho hb
    · obtain ⟨b, off, e2, hbB, hc⟩ := h hx
      simp only [Option.some.injEq] at e2
      subst e2
      refine (Try.slices_Clone_int b off xs.length cap xs u.val (Nat.le_refl _) (by omega) (fun j hj => by rw [u.cell (a := ⟨b, off + j, none⟩) hbB]; exact hc j hj)).mono ?_
      rintro e w ⟨v', rfl, ho, _, hb⟩
      rw [List.take_length] at ho
      exact fin v' w ho hb

end Go.Proofs.Ytefkhnibempibaa

namespace Go.Proofs.Ytefkhnibempibaa
open Go.RowKit
set_option linter.unusedVariables false

theorem Own.far {B : Nat} {w : World} {ad : Option Addr} {cap : Nat} {xs : List Int} (h : Own B w ad cap xs) : ∀ off, ad ≠ some ⟨w.heap.size, off, none⟩ := fun off e => by
  rcases h.open with ⟨e1, _, _⟩ | ⟨g, cur, e1, h1, h2, _⟩
  · rw [e1] at e; cases e
  · rw [e1] at e
    cases e
    have := (Array.getElem?_eq_some_iff.1 h2).1
    omega

set_option maxRecDepth 100000 in
set_option maxHeartbeats 4000000 in
theorem c_made {B : Nat} {W : World} (u : Later B W) (m : Nat) (n : Int) (l : List Nat) (hl : ∀ s, s ∈ l → s < bit m) (hm : m ≤ 8) (hlen : l.length ≤ 1048576) (ad : Option Addr) (cap : Nat) (ho : Own B u.val ad cap (ints l)) :
    Calls Try.prog 45 #[.int .i64 n, .slice ad (ints l).length cap] u.val (RetP B W (MatO u.val.heap.size n (ints (those m (memB l))))) := by
  have hB := u.size
  have hb := bit_le m hm
  have XM : Hid (RowL (u.val.alloc (.cells #[.int .i64 0, .slice none 0 0] 24)) u.val.heap.size 24 [.int .i64 0, .slice none 0 0]) := Lib.hid (RowL.new _ _ _)
  have hZ : Hid (u.val.heap.size < (u.val.alloc (.cells #[.int .i64 0, .slice none 0 0] 24)).heap.size) := Lib.hid (by simp)
  have HF := Lib.hid ho.far
  have e1 : cpt (srt (ints l)) = ints (those m (memB l)) := cpt_srt hl
  have hAl : Hid ((ints (those m (memB l))).length ≤ 17592186044416) := Lib.hid (by rw [ints_len]; have := thoseTo_len (memB l) (bit m); have e : those m (memB l) = thoseTo (memB l) (bit m) := rfl; rw [e]; omega)
  have K1 : Hid (Calls Try.prog 51 #[.slice ad (ints l).length cap] (u.val.alloc (.cells #[.int .i64 0, .slice none 0 0] 24)) (fun e w' => e = .returned (.tuple #[]) ∧ ∃ v : Later B W, w' = v.val ∧ Own B v.val ad cap (srt (ints l)) ∧ (∀ k, k < (u.val.alloc (.cells #[.int .i64 0, .slice none 0 0] 24)).heap.size → (∀ off, ad ≠ some ⟨k, off, none⟩) → v.val.heap[k]? = (u.val.alloc (.cells #[.int .i64 0, .slice none 0 0] 24)).heap[k]?))) := Lib.hid (c_sort (u.alloc _) (ints l) ad cap (ho.alloc _) (by rw [ints_len]; omega))
  have K2 : Hid (∀ (v : Later B W), Own B v.val ad cap (srt (ints l)) → Calls Try.prog 52 #[.slice ad (ints l).length cap] v.val (fun e w' => e = .returned (.slice ad (ints (those m (memB l))).length cap) ∧ ∃ v2 : Later B W, w' = v2.val ∧ Own B v2.val ad cap (ints (those m (memB l))) ∧ (∀ k, k < v.val.heap.size → (∀ off, ad ≠ some ⟨k, off, none⟩) → v2.val.heap[k]? = v.val.heap[k]?))) := Lib.hid (fun v h => by
    have := c_compact v _ ad cap h
    rw [srt_len, e1] at this
    exact this)
  generalize ints (those m (memB l)) = A at *
  have K3 : Hid (∀ (v : Later B W), Own B v.val ad cap A → Calls Try.prog 46 #[.slice ad A.length cap] v.val (RetOwn v.val.heap.size v.val A)) := Lib.hid (fun v h => c_clone (Later.self v.val) A ad cap h.reads hAl.out)
  clear e1 hl ho
  go_enter Try.func45, Try.ntmps45
  go_upto_region 1 with fail
  generalize u.val.heap.size = g at *
  generalize (u.val.alloc (.cells #[.int .i64 0, .slice none 0 0] 24)) = Z at *
  go_wp2_with fail
  refine K1.out.mono ?_
  rintro e _ ⟨rfl, v1, rfl, hO1, hf1⟩
  have X1 : Hid (RowL v1.val g 24 [.int .i64 0, .slice none 0 0]) := Lib.hid (by
    show v1.val.heap[g]? = _
    rw [hf1 g hZ.out HF.out]; exact XM.out)
  have HO1 := Lib.hid hO1
  clear K1 XM hf1 hO1
  go_wp2_with fail
  refine (K2.out v1 HO1.out).mono ?_
  rintro e _ ⟨rfl, v2, rfl, hO2, hf2⟩
  have X2 : Hid (RowL v2.val g 24 [.int .i64 0, .slice none 0 0]) := Lib.hid (by
    show v2.val.heap[g]? = _
    rw [hf2 g X1.out.lt HF.out]; exact X1.out)
  have HO2 := Lib.hid hO2
  have hg2 : g < v2.val.heap.size := X2.out.lt
  clear K2 X1 hf2 hO2 HO1
  go_wp2_with fail
  refine (K3.out v2 HO2.out).mono ?_
  rintro e _ ⟨_, rfl, ⟨ad3, cp3, rfl, hO3⟩, v3, rfl⟩
  have f0 : ∀ (w : Later v2.val.heap.size v2.val), w.val.cell? ⟨g, 0, none⟩ = some (.int .i64 0) := fun w => (X2.out.keep_at w.below hg2).cell rfl
  have z0 : ∀ (w : Later v2.val.heap.size v2.val), w.val.frozen? ⟨g, 0, none⟩ = false := fun w => (X2.out.keep_at w.below hg2).fz 0
  have f1 : ∀ (w : Later v2.val.heap.size v2.val) (x0 : Value), (w.val.setCell ⟨g, 0, none⟩ x0).cell? ⟨g, 1, none⟩ = some (.slice none 0 0) := fun w x0 => ((X2.out.keep_at w.below hg2).set 0 x0).cell rfl
  have z1 : ∀ (w : Later v2.val.heap.size v2.val) (x0 : Value), (w.val.setCell ⟨g, 0, none⟩ x0).frozen? ⟨g, 1, none⟩ = false := fun w x0 => ((X2.out.keep_at w.below hg2).set 0 x0).fz 1
  go_wp2
  refine bodyPost_ret (results_cell_row rfl _ _ g 24 #[.int .i64 n, .slice ad3 A.length cp3] (0, 0) _ rfl (((X2.out.keep v3.below).set 0 _).set 1 _) Try.underlying24 rfl (by kernel_rfl)) rfl ?_
  obtain ⟨z1, hz1⟩ := later_set ⟨v2.up v3, rfl⟩ (g := g) (i := 0) hB (.int .i64 n)
  obtain ⟨z2, hz2⟩ := later_set ⟨z1, hz1⟩ (g := g) (i := 1) hB (.slice ad3 A.length cp3)
  refine RetP.of ⟨z2, hz2⟩ ?_
  exact ⟨_, _, rfl, ((hO3.set hg2 _).set hg2 _).mono (by omega)⟩

end Go.Proofs.Ytefkhnibempibaa
