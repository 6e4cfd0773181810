
/-
  The kinds of sets that axioms.family is asked for: Independents, Circuits, Flats, Hyperplanes.
  axioms.Independents, Circuits, Ranks, Flats, Hyperplanes: of a matroid, and of what is none.
  slices.IndexFunc, slices.ContainsFunc over lists of numbers, at function values that tell; rows of the call's own, written at a place.
-/
import Derived.Test.YtdieaijgoidocaaPk21
import Derived.Test.YtdieaijgoidocaaPk11
import Derived.Test.YtdieaijgoidocaaPk02
import Derived.Test.YtdieaijgoidocaaPk08
namespace Go.Proofs.Ytdieaijgoidocaa
open Go.RowKit
set_option linter.unusedVariables false

end Go.Proofs.Ytdieaijgoidocaa

namespace Go.Proofs.Ytdieaijgoidocaa
open Go.RowKit
set_option linter.unusedVariables false

end Go.Proofs.Ytdieaijgoidocaa

namespace Go.Proofs.Ytdieaijgoidocaa
open Go.RowKit
set_option linter.unusedVariables false

/-- a function value that tells of a list's elements whether they are of a kind, in whatever later world -/
def TellsE (B : Nat) (W : World) (k : FuncId) (caps : Array Value) (l : List Int) (p : Int → Bool) : Prop :=
  ∀ (v : Later B W) (i : Nat), i < l.length → Calls Try.prog k (#[.int .i64 (l.getD i 0)] ++ caps) v.val (Ret B W (.bool (p (l.getD i 0))))

theorem any_getI {l : List Int} {p : Int → Bool} : l.any p = true ↔ ∃ i, i < l.length ∧ p (l.getD i 0) = true := by
  rw [List.any_eq_true]
  constructor
  · rintro ⟨x, hx, h⟩
    obtain ⟨i, hi, e⟩ := List.getElem_of_mem hx
    exact ⟨i, hi, by simpa [hi, e] using h⟩
  · rintro ⟨i, hi, h⟩
    exact ⟨l.getD i 0, by simp [hi], h⟩

set_option maxRecDepth 100000 in
set_option maxHeartbeats 2000000 in
theorem c_indexFunc {B : Nat} {W : World} (u : Later B W) (l : List Int) (a : Option Addr) (cap : Nat) (h : IntsAt B W a l) (hlen : l.length ≤ 4611686018427387904) (k : FuncId) (caps : Array Value) (p : Int → Bool) (hpl : Plain k) (hk : TellsE B W k caps l p) :
    Calls Try.prog 54 #[.slice a l.length cap, .func (.func k) #[] caps] u.val (RetP B W (fun v w => ∃ r : Int, v = .int .i64 r ∧ decide (0 ≤ r) = l.any p)) := by
  have HI := Lib.hid h
  have HK := Lib.hid hk
  have hp1 : ∀ (args : Array Value) (w : World), (callFunc k args).run Try.prog w = .ok (.enter k args) w := hpl
  clear h hk
  go_enter Try.func54, Try.ntmps54
  go_wp2
  go_loopw [8] (fun i wr => ∃ (s : Nat) (v : Later B W), s ≤ l.length ∧ i = .int .i64 s ∧ wr = v.val ∧ Hid (∀ i, i < s → p (l.getD i 0) = false)) (fun i _ => l.length - (intOf i).toNat)
  case atStart => exact ⟨0, u, by omega, rfl, rfl, Lib.hid (fun i hi => by omega)⟩
  case round =>
    obtain ⟨s, v, hs, rfl, rfl, hf⟩ := hrel
    by_cases hlt : s < l.length
    · obtain ⟨b, off, rfl, hbB, hcell⟩ := HI.out.at hlt
      have c0 : ∀ v : Later B W, v.val.cell? ⟨b, off + s, none⟩ = some (.int .i64 (l.getD s 0)) := fun v => hcell v s hlt
      have K := Lib.hid (HK.out v s hlt)
      have HX : Hid (p (l.getD s 0) = true → decide (0 ≤ (s : Int)) = l.any p) := Lib.hid (fun h => by
        rw [any_getI.2 ⟨s, hlt, h⟩]; simp)
      have HY : Hid (p (l.getD s 0) = false → ∀ i, i < s + 1 → p (l.getD i 0) = false) := Lib.hid (fun h i hi => by
        by_cases e : i = s
        · subst e; exact h
        · exact hf.out i (by omega))
      clear hcell hf
      generalize l.getD s 0 = x at *
      rcases btf (p x) with g1 | g1
      · rw [g1] at K
        have HE := Lib.hid (HX.out g1)
        clear g1 HX HY
        have c0' := c0 v
        go_wp2_with (first | (refine (K.out).mono ?_; rintro e _ ⟨rfl, v2, rfl⟩))
        go_ret
        exact RetP.mk v2 ⟨_, rfl, HE.out⟩
      · rw [g1] at K
        have HN := Lib.hid (HY.out g1)
        clear g1 HX HY
        have c0' := c0 v
        go_wp2_with (first | (refine (K.out).mono ?_; rintro e _ ⟨rfl, v2, rfl⟩))
        go_roundw
        case rel => exact ⟨s+1, v2, by omega, by go_num, rfl, HN⟩
        case measure => simp [intOf]; omega
    · have HE : Hid (decide (0 ≤ (-1 : Int)) = l.any p) := Lib.hid (by
        cases c : l.any p
        · decide
        · obtain ⟨i, h1, h2⟩ := any_getI.1 c
          rw [hf.out i (by omega)] at h2; cases h2)
      go_wp2
      go_ret
      exact RetP.mk v ⟨_, rfl, HE.out⟩
/-- a write at a place of a row of the call's own -/
theorem Own.put {B : Nat} {w : World} {g cap : Nat} {xs : List Int} (h : Own B w (some ⟨g, 0, none⟩) cap xs) {i : Nat} (hi : i < xs.length) (x : Int) : Own B (w.setCell ⟨g, i, none⟩ (.int .i64 x)) (some ⟨g, 0, none⟩) cap (xs.set i x) := by
  rcases h.2 with ⟨e, hn⟩ | ⟨g', c, cur, e, h1, h2, h3, h4, h5, h6⟩
  · cases e
  · simp only [Value.slice.injEq, Option.some.injEq, Addr.mk.injEq] at e
    obtain ⟨⟨e1, _⟩, _, e3⟩ := e
    subst e1; subst e3
    refine ⟨by simp, .inr ⟨g, cap, cur.setIfInBounds i (.int .i64 x), by simp, h1, ?_, by simpa using h3, h4, by simpa using h5, ?_⟩⟩
    · have h' : w.heap[g]? = _ := h2
      simp only [World.setCell, Array.getElem?_modify, h']
      simp
    · rw [Nat.mul_one] at h6 ⊢
      rw [List.length_set, Array.toList_setIfInBounds, List.map_set, ← h6, List.take_set]
theorem Own.cellAt {B : Nat} {w : World} {g cap : Nat} {xs : List Int} (h : Own B w (some ⟨g, 0, none⟩) cap xs) {i : Nat} (hi : i < xs.length) : w.cell? ⟨g, i, none⟩ = some (.int .i64 (xs.getD i 0)) := by
  obtain ⟨b, off, e, _, hc⟩ := h.reads (by rintro rfl; simp at hi)
  simp only [Option.some.injEq, Addr.mk.injEq] at e
  obtain ⟨rfl, rfl, _⟩ := e
  have := hc i hi
  rwa [Nat.zero_add] at this
theorem Own.fz {B : Nat} {w : World} {g cap : Nat} {xs : List Int} (h : Own B w (some ⟨g, 0, none⟩) cap xs) (i : Nat) : w.frozen? ⟨g, i, none⟩ = false := by
  rcases h.2 with ⟨e, hn⟩ | ⟨g', c, cur, e, h1, h2, h3, h4, h5, h6⟩
  · cases e
  · simp only [Value.slice.injEq, Option.some.injEq, Addr.mk.injEq] at e
    obtain ⟨⟨e1, _⟩, _⟩ := e
    subst e1
    have h' : w.heap[g]? = _ := h2
    unfold World.frozen?
    rw [h']; simp
theorem Own.base {B : Nat} {w : World} {g cap : Nat} {xs : List Int} (h : Own B w (some ⟨g, 0, none⟩) cap xs) : B ≤ g := by
  rcases h.2 with ⟨e, hn⟩ | ⟨g', c, cur, e, h1, h2, h3, h4, h5, h6⟩
  · cases e
  · simp only [Value.slice.injEq, Option.some.injEq, Addr.mk.injEq] at e
    obtain ⟨⟨e1, _⟩, _⟩ := e
    subst e1
    exact h1
theorem tabL_set (n : Nat) (A A' : Nat → Int) {i : Nat} (hi : i < n) (v : Int) (e : ∀ j, j < n → A' j = if j = i then v else A j) : (tabL n A).set i v = tabL n A' := by
  apply List.ext_getElem
  · simp [tabL]
  · intro j h1 h2
    have hj : j < n := by simpa [tabL] using h2
    simp only [tabL, List.getElem_set, List.getElem_map, List.getElem_range]
    rw [e j hj]
    by_cases c : j = i
    · subst c; simp
    · rw [if_neg (Ne.symm c), if_neg c]



end Go.Proofs.Ytdieaijgoidocaa
