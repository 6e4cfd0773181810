
/-
  axioms.Independents, Circuits, Ranks, Flats, Hyperplanes: of a matroid, and of what is none.
  slices.IndexFunc, slices.ContainsFunc over lists of numbers, at function values that tell; rows of the call's own, written at a place.
-/
import Derived.Test.YtenbeiafdiifgaaPk25
import Derived.Test.YtenbeiafdiifgaaPk13
import Derived.Test.YtenbeiafdiifgaaPk03
import Derived.Test.YtenbeiafdiifgaaPk08
namespace Go.Proofs.Ytenbeiafdiifgaa
open Go.RowKit
set_option linter.unusedVariables false

set_option maxRecDepth 100000 in
set_option maxHeartbeats 4000000 in
theorem c_axRanks_no {B : Nat} {W : World} (u : Later B W) (n : Int) (l : List Int) (a : Option Addr) (cap : Nat) (e : Int) (h : IntsAt B W a l) (hlen : l.length ≤ 4611686018427387904) (he : MatIs n l e) (h0 : e ≠ 0) :
    Calls Try.prog 34 #[.agg #[.int .i64 n, .slice a l.length cap]] u.val (RetP B W (ListE [] e)) := by
  have T0 : Hid (Two (u.val.alloc (.cells #[.int .i64 n, .slice a l.length cap] 24)) u.val.heap.size 24 (.int .i64 n) (.slice a l.length cap)) := Lib.hid (Two.new _ _ _ _)
  have hrr : u.val.heap.size < (u.val.alloc (.cells #[.int .i64 n, .slice a l.length cap] 24)).heap.size := by simp
  have hI : IntsAt (u.val.alloc (.cells #[.int .i64 n, .slice a l.length cap] 24)).heap.size (u.val.alloc (.cells #[.int .i64 n, .slice a l.length cap] 24)) a l := h.to (u.alloc _)
  have HV : Hid (∀ v : Later (u.val.alloc (.cells #[.int .i64 n, .slice a l.length cap] 24)).heap.size (u.val.alloc (.cells #[.int .i64 n, .slice a l.length cap] 24)), ∃ w : Later B W, w.val = v.val) := Lib.hid (fun v => ⟨(u.alloc _).up v, rfl⟩)
  have q0 : ∀ w : Later (u.val.alloc (.cells #[.int .i64 n, .slice a l.length cap] 24)).heap.size (u.val.alloc (.cells #[.int .i64 n, .slice a l.length cap] 24)), w.val.cell? ⟨u.val.heap.size, 0, none⟩ = some (.int .i64 n) := fun w => (T0.out.keep w.below).c0
  have q1 : ∀ w : Later (u.val.alloc (.cells #[.int .i64 n, .slice a l.length cap] 24)).heap.size (u.val.alloc (.cells #[.int .i64 n, .slice a l.length cap] 24)), w.val.cell? ⟨u.val.heap.size, 1, none⟩ = some (.slice a l.length cap) := fun w => (T0.out.keep w.below).c1
  have p0 : (u.val.alloc (.cells #[.int .i64 n, .slice a l.length cap] 24)).cell? ⟨u.val.heap.size, 0, none⟩ = some (.int .i64 n) := T0.out.c0
  have p1 : (u.val.alloc (.cells #[.int .i64 n, .slice a l.length cap] 24)).cell? ⟨u.val.heap.size, 1, none⟩ = some (.slice a l.length cap) := T0.out.c1
  have KC : Hid (Calls Try.prog 33 #[.agg #[.int .i64 n, .slice a l.length cap]] (u.val.alloc (.cells #[.int .i64 n, .slice a l.length cap] 24)) (Ret (u.val.alloc (.cells #[.int .i64 n, .slice a l.length cap] 24)).heap.size (u.val.alloc (.cells #[.int .i64 n, .slice a l.length cap] 24)) (.int .i64 e))) := Lib.hid (c_axCheck (Later.self _) n l a cap e hI hlen he)
  have d0 : (e != 0) = true := by rw [bne_iff_ne]; exact h0
  clear h hI he h0
  go_enter Try.func34, Try.ntmps34
  go_wp2_with (first | (go_at_call 33; (with_reducible refine (KC.out).mono ?_); rintro e _ ⟨rfl, v1, rfl⟩))
  go_ret2
  exact RetP.of (HV.out v1) ListE.no

theorem c_axRanksE {B : Nat} {W : World} (u : Later B W) (m : Nat) (hm : m ≤ 8) (l : List Int) (a : Option Addr) (cap : Nat) (h : IntsAt B W a l) (hlen : l.length ≤ 4611686018427387904) (he : MatIs (m : Int) l 0) :
    Calls Try.prog 34 #[.agg #[.int .i64 m, .slice a l.length cap]] u.val (RetP B W (ListE (rkL m (toN l)) 0)) := (c_axRanks u m hm l a cap h hlen he).mono fun e w h => by
  obtain ⟨v, h1, ⟨g, c, h2, hT⟩, u', h3⟩ := h
  have hr := hT.reads (cap := c)
  exact ⟨v, h1, ⟨_, h2, hr⟩, u', h3⟩

end Go.Proofs.Ytenbeiafdiifgaa

namespace Go.Proofs.Ytenbeiafdiifgaa
open Go.RowKit
set_option linter.unusedVariables false

/-- a function value that tells of a list's elements whether they are of a kind, in whatever later world -/
def TellsE (B : Nat) (W : World) (k : FuncId) (caps : Array Value) (l : List Int) (p : Int → Bool) : Prop :=
  ∀ (v : Later B W) (i : Nat), i < l.length → Calls Try.prog k (#[.int .i64 (l.getD i 0)] ++ caps) v.val (Ret B W (.bool (p (l.getD i 0))))

theorem any_getI {l : List Int} {p : Int → Bool} : l.any p = true ↔ ∃ i, i < l.length ∧ p (l.getD i 0) = true := by
  rw [List.any_eq_true]
  constructor
  · rintro ⟨x, hx, h⟩
    obtain ⟨i, hi, e⟩ := List.getElem_of_mem hx
    exact ⟨i, hi, by simpa [hi, e] using h⟩
  · rintro ⟨i, hi, h⟩
    exact ⟨l.getD i 0, by simp [hi], h⟩

/-- a write at a place of a row of the call's own -/
theorem Own.put {B : Nat} {w : World} {g cap : Nat} {xs : List Int} (h : Own B w (some ⟨g, 0, none⟩) cap xs) {i : Nat} (hi : i < xs.length) (x : Int) : Own B (w.setCell ⟨g, i, none⟩ (.int .i64 x)) (some ⟨g, 0, none⟩) cap (xs.set i x) := by
  rcases h.2 with ⟨e, hn⟩ | ⟨g', c, cur, e, h1, h2, h3, h4, h5, h6⟩
  · cases e
  · simp only [Value.slice.injEq, Option.some.injEq, Addr.mk.injEq] at e
    obtain ⟨⟨e1, _⟩, _, e3⟩ := e
    subst e1; subst e3
    refine ⟨by simp, .inr ⟨g, cap, cur.setIfInBounds i (.int .i64 x), by simp, h1, ?_, by simpa using h3, h4, by simpa using h5, ?_⟩⟩
    · have h' : w.heap[g]? = _ := h2
      simp only [World.setCell, Array.getElem?_modify, h']
      simp
    · rw [Nat.mul_one] at h6 ⊢
      rw [List.length_set, Array.toList_setIfInBounds, List.map_set, ← h6, List.take_set]
theorem Own.cellAt {B : Nat} {w : World} {g cap : Nat} {xs : List Int} (h : Own B w (some ⟨g, 0, none⟩) cap xs) {i : Nat} (hi : i < xs.length) : w.cell? ⟨g, i, none⟩ = some (.int .i64 (xs.getD i 0)) := by
  obtain ⟨b, off, e, _, hc⟩ := h.reads (by rintro rfl; simp at hi)
  simp only [Option.some.injEq, Addr.mk.injEq] at e
  obtain ⟨rfl, rfl, _⟩ := e
  have := hc i hi
  rwa [Nat.zero_add] at this
theorem Own.fz {B : Nat} {w : World} {g cap : Nat} {xs : List Int} (h : Own B w (some ⟨g, 0, none⟩) cap xs) (i : Nat) : w.frozen? ⟨g, i, none⟩ = false := by
  rcases h.2 with ⟨e, hn⟩ | ⟨g', c, cur, e, h1, h2, h3, h4, h5, h6⟩
  · cases e
  · simp only [Value.slice.injEq, Option.some.injEq, Addr.mk.injEq] at e
    obtain ⟨⟨e1, _⟩, _⟩ := e
    subst e1
    have h' : w.heap[g]? = _ := h2
    unfold World.frozen?
    rw [h']; simp
theorem Own.base {B : Nat} {w : World} {g cap : Nat} {xs : List Int} (h : Own B w (some ⟨g, 0, none⟩) cap xs) : B ≤ g := by
  rcases h.2 with ⟨e, hn⟩ | ⟨g', c, cur, e, h1, h2, h3, h4, h5, h6⟩
  · cases e
  · simp only [Value.slice.injEq, Option.some.injEq, Addr.mk.injEq] at e
    obtain ⟨⟨e1, _⟩, _⟩ := e
    subst e1
    exact h1
theorem tabL_set (n : Nat) (A A' : Nat → Int) {i : Nat} (hi : i < n) (v : Int) (e : ∀ j, j < n → A' j = if j = i then v else A j) : (tabL n A).set i v = tabL n A' := by
  apply List.ext_getElem
  · simp [tabL]
  · intro j h1 h2
    have hj : j < n := by simpa [tabL] using h2
    simp only [tabL, List.getElem_set, List.getElem_map, List.getElem_range]
    rw [e j hj]
    by_cases c : j = i
    · subst c; simp
    · rw [if_neg (Ne.symm c), if_neg c]



end Go.Proofs.Ytenbeiafdiifgaa
