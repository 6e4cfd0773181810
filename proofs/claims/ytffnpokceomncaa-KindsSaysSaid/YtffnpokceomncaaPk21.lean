
/-
  Tables of tables: rows of numbers in blocks of their own, under a row of slices.
  Matrices of the call's own: rows that were made one by one; slices.Clone by hand.
  field.inverse, field.twin.
-/
import Derived.Test.YtffnpokceomncaaPk08
import Derived.Test.YtffnpokceomncaaPk19
import Derived.Test.YtffnpokceomncaaPk20
import Derived.Test.YtffnpokceomncaaPk06
import Derived.Test.YtffnpokceomncaaPk10
import Derived.Laws.OwnMore
import Derived.Deep.AppendLies
import Derived.Deep.Onto
import Derived.Test.YtffnpokceomncaaPk11
import Derived.Deep.RegionLaw
import Derived.Deep.CutRange
namespace Go.Proofs.Ytffnpokceomncaa
open Go.RowKit
set_option linter.unusedVariables false

theorem info_row : (Try.prog.info? 35).map (fun i => (i.zero, i.size, i.bytes)) = some (some (.slice none 0 0), 1, 24) := by kernel_rfl

/-- N rows of M numbers each: row i in block r i, the slices in block g -/
structure Grid (B : Nat) (w : World) (g N M : Nat) (r : Nat → Nat) (P : Nat → Nat → Int) : Prop where
  top : w.rowIs g 35 N (fun i => .slice (some ⟨r i, 0, none⟩) M M)
  row : ∀ i, i < N → ITab w (r i) M (P i)
  bg : B ≤ g
  br : ∀ i, i < N → B ≤ r i
  ne : ∀ i, i < N → r i ≠ g
  inj : ∀ i j, i < N → j < N → r i = r j → i = j
namespace Grid
variable {B : Nat} {w : World} {g N M : Nat} {r : Nat → Nat} {P : Nat → Nat → Int}
theorem lt (h : Grid B w g N M r P) : g < w.heap.size := World.rowIs.lt h.top
theorem rlt (h : Grid B w g N M r P) {i : Nat} (hi : i < N) : r i < w.heap.size := (h.row i hi).lt
theorem tcell (h : Grid B w g N M r P) {i : Nat} (hi : i < N) : w.cell? ⟨g, i, none⟩ = some (.slice (some ⟨r i, 0, none⟩) M M) := World.rowIs.cell h.top hi
theorem cell (h : Grid B w g N M r P) {i j : Nat} (hi : i < N) (hj : j < M) : w.cell? ⟨r i, j, none⟩ = some (.int .i64 (P i j)) := (h.row i hi).cell hj
theorem fz (h : Grid B w g N M r P) {i : Nat} (hi : i < N) (j : Nat) : w.frozen? ⟨r i, j, none⟩ = false := (h.row i hi).frozen j
theorem keep {w' : World} (h : Grid B w g N M r P) (hb : Below w.heap.size w w') : Grid B w' g N M r P :=
  ⟨World.rowIs.of_block h.top (hb.block g h.lt), fun i hi => (h.row i hi).keep hb, h.bg, h.br, h.ne, h.inj⟩
theorem keep_at {w' : World} {C : Nat} (h : Grid B w g N M r P) (hb : Below C w w') (hg : g < C) (hr : ∀ i, i < N → r i < C) : Grid B w' g N M r P :=
  ⟨World.rowIs.of_block h.top (hb.block g hg), fun i hi => (h.row i hi).keep_at hb (hr i hi), h.bg, h.br, h.ne, h.inj⟩
theorem mono {C : Nat} (h : Grid B w g N M r P) (hb : C ≤ B) : Grid C w g N M r P :=
  ⟨h.top, h.row, Nat.le_trans hb h.bg, fun i hi => Nat.le_trans hb (h.br i hi), h.ne, h.inj⟩
/-- kept where other blocks are written -/
theorem other (h : Grid B w g N M r P) {b i : Nat} (hg : g ≠ b) (hr : ∀ i, i < N → r i ≠ b) (x : Value) : Grid B (w.setCell ⟨b, i, none⟩ x) g N M r P :=
  ⟨World.rowIs.of_block h.top (Below.heap_setCell _ _ _ _ hg), fun i hi => (h.row i hi).other (hr i hi) x, h.bg, h.br, h.ne, h.inj⟩
theorem congr (h : Grid B w g N M r P) {P' : Nat → Nat → Int} (e : ∀ i j, i < N → j < M → P i j = P' i j) : Grid B w g N M r P' :=
  ⟨h.top, fun i hi => (h.row i hi).congr (fun j hj => e i j hi hj), h.bg, h.br, h.ne, h.inj⟩
/-- one number is written -/
theorem set (h : Grid B w g N M r P) {a : Nat} (ha : a < N) (b : Nat) (x : Int) : Grid B (w.setCell ⟨r a, b, none⟩ (.int .i64 x)) g N M r (setM P a b x) where
  top := World.rowIs.of_block h.top (Below.heap_setCell _ _ _ _ (fun e => h.ne a ha e.symm))
  row := fun i hi => by
    by_cases c : i = a
    · subst c
      exact (h.row i hi).set b x (fun j hj => by unfold setM; by_cases e : j = b <;> simp [e])
    · refine ((h.row i hi).other (fun e => c (h.inj i a hi ha e)) _).congr (fun j hj => ?_)
      unfold setM; rw [if_neg (fun e => c e.1)]
  bg := h.bg
  br := h.br
  ne := h.ne
  inj := h.inj
/-- a row is put in place -/
theorem fzT (h : Grid B w g N M r P) (i : Nat) : w.frozen? ⟨g, i, none⟩ = false := World.rowIs.frozen h.top i
end Grid

/-- under way: the first k rows stand -/
structure GridTo (B : Nat) (w : World) (g N M k : Nat) (r : Nat → Nat) (P : Nat → Nat → Int) : Prop where
  top : w.rowIs g 35 N (fun i => if i < k then .slice (some ⟨r i, 0, none⟩) M M else .slice none 0 0)
  row : ∀ i, i < k → ITab w (r i) M (P i)
  bg : B ≤ g
  br : ∀ i, i < k → B ≤ r i
  ne : ∀ i, i < k → r i ≠ g
  inj : ∀ i j, i < k → j < k → r i = r j → i = j
namespace GridTo
variable {B : Nat} {w : World} {g N M k : Nat} {r : Nat → Nat} {P : Nat → Nat → Int}
theorem lt (h : GridTo B w g N M k r P) : g < w.heap.size := World.rowIs.lt h.top
theorem start (h : w.rowIs g 35 N (fun _ => .slice none 0 0)) (hB : B ≤ g) : GridTo B w g N M 0 (fun _ => 0) P where
  top := World.rowIs.congr h (fun i _ => by rw [if_neg (by omega)])
  row := fun i hi => by omega
  bg := hB
  br := fun i hi => by omega
  ne := fun i hi => by omega
  inj := fun i j hi => by omega
theorem keep {w' : World} (h : GridTo B w g N M k r P) (hb : Below w.heap.size w w') : GridTo B w' g N M k r P :=
  ⟨World.rowIs.of_block h.top (hb.block g h.lt), fun i hi => (h.row i hi).keep hb, h.bg, h.br, h.ne, h.inj⟩
theorem old (h : GridTo B w g N M k r P) (hk : k < N) : w.cell? ⟨g, k, none⟩ = some (.slice none 0 0) := by
  have := World.rowIs.cell h.top hk
  rw [if_neg (Nat.lt_irrefl k)] at this
  exact this
theorem fz (h : GridTo B w g N M k r P) (i : Nat) : w.frozen? ⟨g, i, none⟩ = false := World.rowIs.frozen h.top i
/-- one more row, in a block that is none of theirs -/
theorem put (h : GridTo B w g N M k r P) {b : Nat} (hb : B ≤ b) (hg : b ≠ g) (hne : ∀ i, i < k → r i ≠ b) {Q : Nat → Int} (hT : ITab w b M Q) :
    GridTo B (w.setCell ⟨g, k, none⟩ (.slice (some ⟨b, 0, none⟩) M M)) g N M (k + 1) (fun i => if i = k then b else r i) (fun i => if i = k then Q else P i) where
  top := World.rowIs.congr (World.rowIs.set h.top k _) (fun i hi => by
    by_cases c : i = k
    · subst c; rw [if_pos rfl, if_pos (by omega), if_pos rfl]
    · rw [if_neg c, if_neg c]
      by_cases c2 : i < k
      · rw [if_pos c2, if_pos (by omega)]
      · rw [if_neg c2, if_neg (by omega)])
  row := fun i hi => by
    by_cases c : i = k
    · subst c; simp only [if_true]; exact hT.other hg _
    · simp only [if_neg c]; exact (h.row i (by omega)).other (h.ne i (by omega)) _
  bg := h.bg
  br := fun i hi => by
    by_cases c : i = k
    · rw [if_pos c]; exact hb
    · rw [if_neg c]; exact h.br i (by omega)
  ne := fun i hi => by
    by_cases c : i = k
    · rw [if_pos c]; exact hg
    · rw [if_neg c]; exact h.ne i (by omega)
  inj := fun i j hi hj => by
    by_cases c : i = k
    · by_cases d : j = k
      · intro _; omega
      · rw [if_pos c, if_neg d]; intro e; exact absurd e.symm (hne j (by omega))
    · by_cases d : j = k
      · rw [if_neg c, if_pos d]; intro e; exact absurd e (hne i (by omega))
      · rw [if_neg c, if_neg d]; exact h.inj i j (by omega) (by omega)
theorem full (h : GridTo B w g N M N r P) : Grid B w g N M r P :=
  ⟨World.rowIs.congr h.top (fun i hi => by rw [if_pos hi]), h.row, h.bg, h.br, h.ne, h.inj⟩
theorem congr (h : GridTo B w g N M k r P) {P' : Nat → Nat → Int} (e : ∀ i j, i < k → j < M → P i j = P' i j) : GridTo B w g N M k r P' :=
  ⟨h.top, fun i hi => (h.row i hi).congr (fun j hj => e i j hi hj), h.bg, h.br, h.ne, h.inj⟩
end GridTo

end Go.Proofs.Ytffnpokceomncaa

namespace Go.Proofs.Ytffnpokceomncaa
open Go.RowKit
set_option linter.unusedVariables false

set_option maxHeartbeats 1000000 in
theorem c_cloneM {B : Nat} {W : World} (u : Later B W) (xs : List Int) (ad : Option Addr) (cap : Nat) (h : IntsAt B W ad xs) (hn : ad = none → cap = 0) (hlen : xs.length ≤ 1048576) :
    Calls Try.prog 57 #[.slice ad xs.length cap] u.val (RetOwn B W xs) := by
  cases ad with
  | none =>
    have hc := hn rfl
    subst hc
    have hx : xs = [] := by
      by_cases e : xs = []
      · exact e
      · obtain ⟨b, off, e2, _⟩ := h e; cases e2
    subst hx
    have heq : ∀ w : World, (binOp .eql 35 (.slice none 0 0) (.slice none 0 0)).run Try.prog w = .ok (.bool true) w := fun w => by simp only [binOp]; simp [run_equal_slice_nil w 35 3 none 0 0 Try.underlying35]
    clear h hn
    go_enter Try.func57, Try.ntmps57
    go_wp2
    go_ret
    exact RetP.mk u ⟨none, 0, rfl, Own.nil _ _⟩
  | some x =>
    have HI : Hid (IntsAt (u.val.alloc (.cells #[] 3)).heap.size (u.val.alloc (.cells #[] 3)) (some x) xs) := Lib.hid (h.to (u.alloc _))
    have hB := u.size
    have HO : Hid (Own B (u.val.alloc (.cells #[] 3)) (some ⟨u.val.heap.size, 0, none⟩) 0 []) := Lib.hid ⟨rfl, .inr ⟨u.val.heap.size, 0, #[], rfl, hB, heap_alloc_new _ _, by simp, by simp [maxLen], by simp, by simp⟩⟩
    have heq : ∀ w : World, (binOp .eql 35 (.slice (some x) xs.length cap) (.slice none 0 0)).run Try.prog w = .ok (.bool false) w := fun w => by simp only [binOp]; simp [run_equal_slice_nil w 35 3 (some x) xs.length cap Try.underlying35]
    clear h hn
    go_enter Try.func57, Try.ntmps57
    go_wp2_with (first | (at_builtin; refine wpList_appends_g (B := B) (by simp; omega) rfl _ _ rfl [] (some ⟨u.val.heap.size, 0, none⟩) 0 rfl HO.out xs (some x) cap rfl HI.out (by simp) (by simp; omega) ?_; intro w' ad' cap' hown hgrow) | fail)
    go_ret
    refine RetP.mk ((u.alloc (.cells #[] 3)).to w' (own_below (Below.refl _ _) (u.alloc (.cells #[] 3)).size HO.out hgrow)) ⟨ad', cap', rfl, hown⟩

theorem ownsRow_other {B : Nat} {w : World} {e : TypeId} {n : Nat} {v : Value} {m : Nat} {xs : List Value} (h : w.ownsRow B e n v m xs) {b i : Nat} (hne : v.ownBlock ≠ some b) (x : Value) : (w.setCell ⟨b, i, none⟩ x).ownsRow B e n v m xs :=
  World.ownsRow.kept (row := some b) h ⟨rfl, rfl, rfl, by simp, fun k _ hk => Below.heap_setCell _ _ _ _ (by rintro rfl; exact hk rfl)⟩ (.inr hne)
theorem below_set {C : Nat} {w : World} {b i : Nat} (hb : C ≤ b) (x : Value) : Below C w (w.setCell ⟨b, i, none⟩ x) := ⟨rfl, rfl, rfl, by simp, fun k hk => Below.heap_setCell _ _ _ _ (by show k ≠ b; omega)⟩
theorem Own.far2 {B : Nat} {w : World} {g cap : Nat} {xs : List Int} (h : Own B w (some ⟨g, 0, none⟩) cap xs) {b i : Nat} (hne : g ≠ b) (x : Value) : Own B (w.setCell ⟨b, i, none⟩ x) (some ⟨g, 0, none⟩) cap xs :=
  ownsRow_other h (by simp [Value.ownBlock]; exact hne) x
theorem Own.cellL {B : Nat} {w : World} {g cap n : Nat} {A : Nat → Int} (h : Own B w (some ⟨g, 0, none⟩) cap (tabL n A)) {i : Nat} (hi : i < n) : w.cell? ⟨g, i, none⟩ = some (.int .i64 (A i)) := by
  unfold Own at h
  rw [World.ownsRow.cellAt h i (by rw [tabL_len]; omega)]
  simp [tabL, hi]
theorem Own.fzL {B : Nat} {w : World} {g cap : Nat} {xs : List Int} (h : Own B w (some ⟨g, 0, none⟩) cap xs) (i : Nat) : w.frozen? ⟨g, i, none⟩ = false := World.ownsRow.frozenAt h i
theorem Own.ltL {B : Nat} {w : World} {g cap : Nat} {xs : List Int} (h : Own B w (some ⟨g, 0, none⟩) cap xs) : B ≤ g ∧ g < w.heap.size := World.ownsRow.lt h g rfl
theorem Own.setL {B : Nat} {w : World} {g cap n : Nat} {A A' : Nat → Int} (h : Own B w (some ⟨g, 0, none⟩) cap (tabL n A)) (i : Nat) (v : Int) (e : ∀ j, j < n → A' j = if j = i then v else A j) : Own B (w.setCell ⟨g, i, none⟩ (.int .i64 v)) (some ⟨g, 0, none⟩) cap (tabL n A') := by
  unfold Own at h ⊢
  rw [tabL_len] at h ⊢
  have := (World.ownsRow.stored h i (.int .i64 v)).1
  rwa [show (tabL n A').map (Value.int .i64) = ((tabL n A).map (Value.int .i64)).set i (.int .i64 v) from by
    apply List.ext_getElem
    · simp [tabL]
    · intro k h1 h2
      simp [tabL] at h1
      rw [List.getElem_set]
      simp only [tabL, List.getElem_map, List.getElem_range]
      rw [e k h1]
      by_cases c : k = i
      · subst c; simp
      · rw [if_neg c, if_neg (fun h => c h.symm)]]

/-- N rows of C numbers each, under a row of slices: row i in block r i -/
structure Mtx (B : Nat) (w : World) (ad : Option Addr) (gc N C : Nat) (hd : Nat → Option Addr) (r cp : Nat → Nat) (P : Nat → Nat → Int) : Prop where
  top : w.ownsRow B 35 1 (.slice ad N gc) N ((List.range N).map (fun i => Value.slice (hd i) C (cp i)))
  hdr : 0 < C → ∀ i, i < N → hd i = some ⟨r i, 0, none⟩
  row : 0 < C → ∀ i, i < N → Own B w (some ⟨r i, 0, none⟩) (cp i) (tabL C (P i))
  ne : 0 < C → ∀ i, i < N → ∀ g, ad = some ⟨g, 0, none⟩ → r i ≠ g
  inj : 0 < C → ∀ i j, i < N → j < N → r i = r j → i = j
  nil : ∀ i, i < N → hd i = none → cp i = 0
namespace Mtx
variable {B : Nat} {w : World} {ad : Option Addr} {gc N C : Nat} {hd : Nat → Option Addr} {r cp : Nat → Nat} {P : Nat → Nat → Int}
theorem start (B : Nat) (w : World) (C : Nat) (hd : Nat → Option Addr) (r cp : Nat → Nat) (P : Nat → Nat → Int) : Mtx B w none 0 0 C hd r cp P :=
  ⟨World.ownsRow_nil _ _ _ _, fun _ i hi => by omega, fun _ i hi => by omega, fun _ i hi => by omega, fun _ i j hi => by omega, fun i hi => by omega⟩
theorem some' (h : Mtx B w ad gc N C hd r cp P) (hN : 0 < N) : ∃ g, ad = some ⟨g, 0, none⟩ ∧ B ≤ g ∧ g < w.heap.size := by
  rcases h.top.2 with ⟨_, hz⟩ | ⟨g, c, cur, e, hb, hh, _⟩
  · omega
  · simp only [Value.slice.injEq] at e
    exact ⟨g, e.1, hb, (Array.getElem?_eq_some_iff.1 hh).1⟩
theorem room (h : Mtx B w ad gc N C hd r cp P) : N ≤ gc := by
  rcases h.top.2 with ⟨_, hz⟩ | ⟨g, c, cur, e, hb, hh, hn, _⟩
  · omega
  · simp only [Value.slice.injEq] at e
    omega
theorem form (h : Mtx B w ad gc N C hd r cp P) : (ad = none ∧ gc = 0 ∧ N = 0) ∨ ∃ g, ad = some ⟨g, 0, none⟩ ∧ B ≤ g ∧ g < w.heap.size := by
  rcases h.top.2 with ⟨e, hz⟩ | ⟨g, c, cur, e, hb, hh, hn, _⟩
  · simp only [Value.slice.injEq] at e
    exact .inl ⟨e.1, e.2.2, hz⟩
  · simp only [Value.slice.injEq] at e
    exact .inr ⟨g, e.1, hb, (Array.getElem?_eq_some_iff.1 hh).1⟩
theorem tcell {g : Nat} (h : Mtx B w (some ⟨g, 0, none⟩) gc N C hd r cp P) {i : Nat} (hi : i < N) : w.cell? ⟨g, i, none⟩ = some (.slice (hd i) C (cp i)) := by
  rw [World.ownsRow.cellAt h.top i (by omega)]
  simp [hi]
theorem tfz {g : Nat} (h : Mtx B w (some ⟨g, 0, none⟩) gc N C hd r cp P) (i : Nat) : w.frozen? ⟨g, i, none⟩ = false := World.ownsRow.frozenAt h.top i
theorem cell (h : Mtx B w ad gc N C hd r cp P) {i j : Nat} (hi : i < N) (hj : j < C) : w.cell? ⟨r i, j, none⟩ = some (.int .i64 (P i j)) := (h.row (by omega) i hi).cellL hj
theorem fz (h : Mtx B w ad gc N C hd r cp P) (hC : 0 < C) {i : Nat} (hi : i < N) (j : Nat) : w.frozen? ⟨r i, j, none⟩ = false := (h.row hC i hi).fzL j
theorem rlt (h : Mtx B w ad gc N C hd r cp P) (hC : 0 < C) {i : Nat} (hi : i < N) : B ≤ r i ∧ r i < w.heap.size := (h.row hC i hi).ltL
theorem keep {w' : World} (h : Mtx B w ad gc N C hd r cp P) (hb : Below w.heap.size w w') : Mtx B w' ad gc N C hd r cp P :=
  ⟨World.ownsRow.kept (row := none) h.top ⟨hb.os, hb.tape, hb.output, hb.size, fun k hk _ => hb.block k hk⟩ (by cases (Value.slice ad N gc).ownBlock <;> simp), h.hdr, fun hC i hi => (h.row hC i hi).keep hb, h.ne, h.inj, h.nil⟩
theorem mono {B' : Nat} (h : Mtx B w ad gc N C hd r cp P) (hb : B' ≤ B) : Mtx B' w ad gc N C hd r cp P :=
  ⟨World.ownsRow.mono h.top hb, h.hdr, fun hC i hi => (h.row hC i hi).mono hb, h.ne, h.inj, h.nil⟩
theorem congr (h : Mtx B w ad gc N C hd r cp P) {P' : Nat → Nat → Int} (e : ∀ i j, i < N → j < C → P i j = P' i j) : Mtx B w ad gc N C hd r cp P' :=
  ⟨h.top, h.hdr, fun hC i hi => by rw [← tabL_congr (fun j hj => e i j hi hj)]; exact h.row hC i hi, h.ne, h.inj, h.nil⟩
/-- older blocks are written -/
theorem old (h : Mtx B w ad gc N C hd r cp P) {b i : Nat} (hb : b < B) (x : Value) : Mtx B (w.setCell ⟨b, i, none⟩ x) ad gc N C hd r cp P :=
  ⟨ownsRow_other h.top (fun e => by
    have := (World.ownsRow.lt h.top b e).1
    omega) x, h.hdr, fun hC i hi => (h.row hC i hi).set hb x, h.ne, h.inj, h.nil⟩
/-- one number is written -/
theorem set (h : Mtx B w ad gc N C hd r cp P) (hC : 0 < C) {a : Nat} (ha : a < N) (b : Nat) (x : Int) : Mtx B (w.setCell ⟨r a, b, none⟩ (.int .i64 x)) ad gc N C hd r cp (setM P a b x) where
  top := ownsRow_other h.top (fun e => by
    rcases h.form with ⟨rfl, rfl, rfl⟩ | ⟨g, rfl, _⟩
    · omega
    · exact h.ne hC a ha g rfl (by cases e; rfl)) _
  hdr := h.hdr
  row := fun _ i hi => by
    by_cases c : i = a
    · subst c
      exact (h.row hC i hi).setL b x (fun j hj => by unfold setM; by_cases e : j = b <;> simp [e])
    · have h1 := (h.row hC i hi).far2 (b := r a) (i := b) (fun e => c (h.inj hC i a hi ha e)) (.int .i64 x)
      rwa [tabL_congr (A' := setM P a b x i) (fun j hj => by unfold setM; rw [if_neg (fun e => c e.1)])] at h1
  ne := h.ne
  inj := h.inj
  nil := h.nil
/-- two rows change places -/
theorem swap {g : Nat} (h : Mtx B w (some ⟨g, 0, none⟩) gc N C hd r cp P) {a b : Nat} (ha : a < N) (hb : b < N) : Mtx B ((w.setCell ⟨g, a, none⟩ (.slice (hd b) C (cp b))).setCell ⟨g, b, none⟩ (.slice (hd a) C (cp a))) (some ⟨g, 0, none⟩) gc N C (fun i => hd (swp a b i)) (fun i => r (swp a b i)) (fun i => cp (swp a b i)) (fun i => P (swp a b i)) where
  top := by
    have h1 := (World.ownsRow.stored h.top a (.slice (hd b) C (cp b))).1
    have h2 := (World.ownsRow.stored h1 b (.slice (hd a) C (cp a))).1
    rwa [show (List.range N).map (fun i => Value.slice (hd (swp a b i)) C (cp (swp a b i))) = (((List.range N).map (fun i => Value.slice (hd i) C (cp i))).set a (.slice (hd b) C (cp b))).set b (.slice (hd a) C (cp a)) from by
      apply List.ext_getElem
      · simp
      · intro k h1 h2
        simp at h1
        rw [List.getElem_set, List.getElem_set]
        simp only [List.getElem_map, List.getElem_range]
        unfold swp
        by_cases c2 : b = k
        · rw [if_pos c2]
          subst c2
          by_cases c1 : b = a
          · subst c1; simp
          · rw [if_neg c1, if_pos rfl]
        · rw [if_neg c2]
          by_cases c1 : a = k
          · subst c1; simp
          · rw [if_neg c1, if_neg (fun e => c1 e.symm), if_neg (fun e => c2 e.symm)]]
  hdr := fun hC i hi => h.hdr hC _ (swp_lt ha hb hi)
  row := fun hC i hi => by
    have hlt := swp_lt ha hb hi
    exact ((h.row hC _ hlt).far2 (h.ne hC _ hlt g rfl) _).far2 (h.ne hC _ hlt g rfl) _
  ne := fun hC i hi => h.ne hC _ (swp_lt ha hb hi)
  inj := fun hC i j hi hj e => by
    have := h.inj hC _ _ (swp_lt ha hb hi) (swp_lt ha hb hj) e
    have e2 := congrArg (swp a b) this
    rwa [swp_swp, swp_swp] at e2
  nil := fun i hi => h.nil _ (swp_lt ha hb hi)
end Mtx
/-- read as a list of lists -/
def mxL (N C : Nat) (P : Nat → Nat → Int) : Lls := (List.range N).map (fun i => tabL C (P i))
theorem mxL_len (N C : Nat) (P : Nat → Nat → Int) : (mxL N C P).length = N := by simp [mxL]
theorem mxL_get {N C : Nat} {P : Nat → Nat → Int} {i : Nat} (hi : i < N) : (mxL N C P).getD i [] = tabL C (P i) := by simp [mxL, hi]
theorem mxL_ent {N C : Nat} {P : Nat → Nat → Int} {i j : Nat} (hi : i < N) (hj : j < C) : ent (mxL N C P) i j = P i j := by
  unfold ent
  rw [mxL_get hi, tabL_getD hj]
theorem Mtx.rows {B : Nat} {w : World} {ad : Option Addr} {gc N C : Nat} {hd : Nat → Option Addr} {r cp : Nat → Nat} {P : Nat → Nat → Int} (h : Mtx B w ad gc N C hd r cp P) : RowsI w.heap.size w ad (mxL N C P) := fun hne => by
  have hN : 0 < N := by
    rcases Nat.eq_zero_or_pos N with e | e
    · subst e; exact absurd rfl hne
    · exact e
  obtain ⟨g, rfl, _, hlt⟩ := h.some' hN
  refine ⟨g, 0, rfl, hlt, fun i hi => ?_⟩
  rw [mxL_len] at hi
  rw [mxL_get hi, tabL_len, Nat.zero_add]
  refine ⟨hd i, cp i, h.tcell hi, ?_, h.nil i hi⟩
  by_cases hC : 0 < C
  · rw [h.hdr hC i hi]; exact (h.row hC i hi).reads
  · have : C = 0 := by omega
    subst this
    exact fun hne => absurd rfl hne
theorem swp_comm (a b k : Nat) : swp a b k = swp b a k := by
  unfold swp
  by_cases c1 : k = a <;> by_cases c2 : k = b <;> simp_all

/-- a row of the call's own -/
structure RowO (B : Nat) (w : World) (C : Nat) (hd : Option Addr) (r cp : Nat) (Q : Nat → Int) : Prop where
  hdr : 0 < C → hd = some ⟨r, 0, none⟩
  row : 0 < C → Own B w (some ⟨r, 0, none⟩) cp (tabL C Q)
  nil : hd = none → cp = 0
/-- a world in which one row more lies behind the others -/
structure PushM (B : Nat) (w : World) (ad : Option Addr) (gc N C : Nat) (hd : Nat → Option Addr) (r cp : Nat → Nat) (P : Nat → Nat → Int) (ar : Option Addr) (rr cr : Nat) (Q : Nat → Int) where
  val : World
  g : Nat
  gc' : Nat
  below : Below B w val
  out : Mtx B val (some ⟨g, 0, none⟩) gc' (N + 1) C (fun i => if i = N then ar else hd i) (fun i => if i = N then rr else r i) (fun i => if i = N then cr else cp i) (fun i => if i = N then Q else P i)
theorem step_pushM {B : Nat} {w : World} {ad : Option Addr} {gc N C : Nat} {hd : Nat → Option Addr} {r cp : Nat → Nat} {P : Nat → Nat → Int} (hM : Mtx B w ad gc N C hd r cp P) {ar : Option Addr} {rr cr : Nat} {Q : Nat → Int} (hR : RowO B w C ar rr cr Q) (hnew : 0 < C → (∀ i, i < N → r i ≠ rr) ∧ ∀ g, ad = some ⟨g, 0, none⟩ → rr ≠ g) (hB : B ≤ w.heap.size)
    {ops : Array Oper} {o : Oper} {a : Act} {K : Act → World → Prop} {Q' : Exit → Act → World → Prop} {E : Prop} (hgd : o.guard = none) (s x : Operand)
    (ho : o.op = .call { callee := .builtin .append, args := #[s, x], argTypes := #[22, 22] })
    (hs : a.eval s = .slice ad N gc) (hx : a.eval x = .slice (some ⟨w.heap.size, 0, none⟩) 1 1)
    (hlen : N + 1 ≤ 4294967296)
    (h : ∀ p : PushM B w ad gc N C hd r cp P ar rr cr Q, K (a.put o.dst (.slice (some ⟨p.g, 0, none⟩) (N + 1) p.gc')) p.val) :
    if Region.wanted o (yielded ops a.tmps) = true then Oper.wp Try.prog o a (w.alloc (.cells #[.slice ar C cr] 35)) K Q' else E := by
  obtain ⟨i0, hi, hz0, hz1, hz2⟩ := info_parts info_row
  refine step_append_lies _ hgd s x 22 ho B 35 i0 (.slice none 0 0) 1 24 Try.underlying22 hi hz0 hz1 hz2 rfl (by decide) _ N _ hs (World.ownsRow.alloc hM.top _) ⟨w.heap.size, 0, none⟩ 1 1 [.slice ar C cr] hx rfl ?_ ?_ (by decide) (by unfold maxLen; omega) (by omega) (by simp; omega) _ rfl ?_
  · intro j v hj
    have hj0 : j = 0 := by
      have := (List.getElem?_eq_some_iff.1 hj).1
      simp at this
      omega
    subst hj0
    have e : (⟨w.heap.size, 0, none⟩ : Addr).add 0 = ⟨w.heap.size, 0, none⟩ := by unfold Addr.add; split <;> simp_all
    rw [e]
    simp at hj
    subst hj
    exact cell_one_new w _ 35 0 _ rfl
  · intro v hv
    simp at hv
    subst hv
    rfl
  · intro g gc' w' h2 h3 h4 h5
    have hal : Below w.heap.size w (w.alloc (.cells #[.slice ar C cr] 35)) := (Below.refl _ _).alloc (Nat.le_refl _) _
    have hsz : (w.alloc (.cells #[.slice ar C cr] 35)).heap.size = w.heap.size + 1 := by simp
    have hgo : g = g := rfl
    have hown : ∀ k, (Value.slice ad N gc).ownBlock = some k → ad = some ⟨k, 0, none⟩ ∧ B ≤ k := fun k hk => by
      rcases hM.form with ⟨rfl, rfl, rfl⟩ | ⟨g', rfl, hb, _⟩
      · cases hk
      · have e : g' = k := by simpa [Value.ownBlock] using hk
        subst e
        exact ⟨rfl, hb⟩
    have hg : ∀ q, q < w.heap.size → (∀ k, ad = some ⟨k, 0, none⟩ → q ≠ k) → g ≠ q := fun q hq hne e => by
      rcases h4 with h4 | h4
      · exact hne g (hown g h4).1 e.symm
      · omega
    have hbel : Below B w w' := ⟨h3.os.trans hal.os, h3.tape.trans hal.tape, h3.output.trans hal.output, by have := h3.size; omega, fun k hk => by
      rw [h3.block k (by omega) (fun e => by have := (hown k e.symm).2; omega), hal.block k (by omega)]⟩
    have hkeep : ∀ {q c : Nat} {xs : List Int}, Own B w (some ⟨q, 0, none⟩) c xs → (∀ k, ad = some ⟨k, 0, none⟩ → q ≠ k) → Own B w' (some ⟨q, 0, none⟩) c xs := fun {q c xs} hO hne => by
      refine (hO.keep hal).kept h3 (.inr ?_)
      intro e
      have e2 : (Value.slice ad N gc).ownBlock = some q := e.symm
      exact hne q (hown q e2).1 rfl
    refine h ⟨w', g, gc', hbel, ?_, ?_, ?_, ?_, ?_, ?_⟩
    · rwa [show (List.range N).map (fun i => Value.slice (hd i) C (cp i)) ++ [.slice ar C cr] = (List.range (N + 1)).map (fun i => Value.slice (if i = N then ar else hd i) C (if i = N then cr else cp i)) from by
        rw [List.range_succ, List.map_append]
        congr 1
        · refine List.map_congr_left (fun i hi => ?_)
          have : i < N := by simpa using hi
          rw [if_neg (by omega), if_neg (by omega)]
        · simp] at h2
    · intro hC i hi
      by_cases e : i = N
      · subst e; simp only [if_true]; exact hR.hdr hC
      · simp only [if_neg e]; exact hM.hdr hC i (by omega)
    · intro hC i hi
      by_cases e : i = N
      · subst e; simp only [if_true]; exact hkeep (hR.row hC) (hnew hC).2
      · simp only [if_neg e]; exact hkeep (hM.row hC i (by omega)) (fun k hk => hM.ne hC i (by omega) k hk)
    · intro hC i hi g' hg'
      cases hg'
      by_cases e : i = N
      · subst e; simp only [if_true]; exact fun e2 => hg rr (hR.row hC).ltL.2 (hnew hC).2 e2.symm
      · simp only [if_neg e]; exact fun e2 => hg (r i) (hM.rlt hC (by omega)).2 (fun k hk => hM.ne hC i (by omega) k hk) e2.symm
    · intro hC i j hi hj e
      by_cases c1 : i = N <;> by_cases c2 : j = N
      · omega
      · simp only [if_pos c1, if_neg c2] at e
        exact absurd e.symm ((hnew hC).1 j (by omega))
      · simp only [if_neg c1, if_pos c2] at e
        exact absurd e ((hnew hC).1 i (by omega))
      · simp only [if_neg c1, if_neg c2] at e
        exact hM.inj hC i j (by omega) (by omega) e
    · intro i hi
      by_cases e : i = N
      · subst e; simp only [if_true]; exact hR.nil
      · simp only [if_neg e]; exact hM.nil i (by omega)

theorem wpList_pushM {B : Nat} {w : World} {ad : Option Addr} {gc N C : Nat} {hd : Nat → Option Addr} {r cp : Nat → Nat} {P : Nat → Nat → Int} (hM : Mtx B w ad gc N C hd r cp P) {ar : Option Addr} {rr cr : Nat} {Q : Nat → Int} (hR : RowO B w C ar rr cr Q) (hnew : 0 < C → (∀ i, i < N → r i ≠ rr) ∧ ∀ g, ad = some ⟨g, 0, none⟩ → rr ≠ g) (hB : B ≤ w.heap.size)
    {ops : Array Oper} {rest : List Oper} {o : Oper} {a : Act} {Q' : Exit → Act → World → Prop} (hgd : o.guard = none) (s x : Operand)
    (ho : o.op = .call { callee := .builtin .append, args := #[s, x], argTypes := #[22, 22] })
    (hs : a.eval s = .slice ad N gc) (hx : a.eval x = .slice (some ⟨w.heap.size, 0, none⟩) 1 1)
    (hlen : N + 1 ≤ 4294967296)
    (h : ∀ p : PushM B w ad gc N C hd r cp P ar rr cr Q, wpList Try.prog ops Q' rest (a.put o.dst (.slice (some ⟨p.g, 0, none⟩) (N + 1) p.gc')) p.val) :
    wpList Try.prog ops Q' (o :: rest) a (w.alloc (.cells #[.slice ar C cr] 35)) := by
  obtain ⟨i0, hi, hz0, hz1, hz2⟩ := info_parts info_row
  refine wpList_append_lies _ hgd s x 22 ho B 35 i0 (.slice none 0 0) 1 24 Try.underlying22 hi hz0 hz1 hz2 rfl (by decide) _ N _ hs (World.ownsRow.alloc hM.top _) ⟨w.heap.size, 0, none⟩ 1 1 [.slice ar C cr] hx rfl ?_ ?_ (by decide) (by unfold maxLen; omega) (by omega) (by simp; omega) _ rfl ?_
  · intro j v hj
    have hj0 : j = 0 := by
      have := (List.getElem?_eq_some_iff.1 hj).1
      simp at this
      omega
    subst hj0
    have e : (⟨w.heap.size, 0, none⟩ : Addr).add 0 = ⟨w.heap.size, 0, none⟩ := by unfold Addr.add; split <;> simp_all
    rw [e]
    simp at hj
    subst hj
    exact cell_one_new w _ 35 0 _ rfl
  · intro v hv
    simp at hv
    subst hv
    rfl
  · intro g gc' w' h2 h3 h4 h5
    have hal : Below w.heap.size w (w.alloc (.cells #[.slice ar C cr] 35)) := (Below.refl _ _).alloc (Nat.le_refl _) _
    have hsz : (w.alloc (.cells #[.slice ar C cr] 35)).heap.size = w.heap.size + 1 := by simp
    have hgo : g = g := rfl
    have hown : ∀ k, (Value.slice ad N gc).ownBlock = some k → ad = some ⟨k, 0, none⟩ ∧ B ≤ k := fun k hk => by
      rcases hM.form with ⟨rfl, rfl, rfl⟩ | ⟨g', rfl, hb, _⟩
      · cases hk
      · have e : g' = k := by simpa [Value.ownBlock] using hk
        subst e
        exact ⟨rfl, hb⟩
    have hg : ∀ q, q < w.heap.size → (∀ k, ad = some ⟨k, 0, none⟩ → q ≠ k) → g ≠ q := fun q hq hne e => by
      rcases h4 with h4 | h4
      · exact hne g (hown g h4).1 e.symm
      · omega
    have hbel : Below B w w' := ⟨h3.os.trans hal.os, h3.tape.trans hal.tape, h3.output.trans hal.output, by have := h3.size; omega, fun k hk => by
      rw [h3.block k (by omega) (fun e => by have := (hown k e.symm).2; omega), hal.block k (by omega)]⟩
    have hkeep : ∀ {q c : Nat} {xs : List Int}, Own B w (some ⟨q, 0, none⟩) c xs → (∀ k, ad = some ⟨k, 0, none⟩ → q ≠ k) → Own B w' (some ⟨q, 0, none⟩) c xs := fun {q c xs} hO hne => by
      refine (hO.keep hal).kept h3 (.inr ?_)
      intro e
      have e2 : (Value.slice ad N gc).ownBlock = some q := e.symm
      exact hne q (hown q e2).1 rfl
    refine h ⟨w', g, gc', hbel, ?_, ?_, ?_, ?_, ?_, ?_⟩
    · rwa [show (List.range N).map (fun i => Value.slice (hd i) C (cp i)) ++ [.slice ar C cr] = (List.range (N + 1)).map (fun i => Value.slice (if i = N then ar else hd i) C (if i = N then cr else cp i)) from by
        rw [List.range_succ, List.map_append]
        congr 1
        · refine List.map_congr_left (fun i hi => ?_)
          have : i < N := by simpa using hi
          rw [if_neg (by omega), if_neg (by omega)]
        · simp] at h2
    · intro hC i hi
      by_cases e : i = N
      · subst e; simp only [if_true]; exact hR.hdr hC
      · simp only [if_neg e]; exact hM.hdr hC i (by omega)
    · intro hC i hi
      by_cases e : i = N
      · subst e; simp only [if_true]; exact hkeep (hR.row hC) (hnew hC).2
      · simp only [if_neg e]; exact hkeep (hM.row hC i (by omega)) (fun k hk => hM.ne hC i (by omega) k hk)
    · intro hC i hi g' hg'
      cases hg'
      by_cases e : i = N
      · subst e; simp only [if_true]; exact fun e2 => hg rr (hR.row hC).ltL.2 (hnew hC).2 e2.symm
      · simp only [if_neg e]; exact fun e2 => hg (r i) (hM.rlt hC (by omega)).2 (fun k hk => hM.ne hC i (by omega) k hk) e2.symm
    · intro hC i j hi hj e
      by_cases c1 : i = N <;> by_cases c2 : j = N
      · omega
      · simp only [if_pos c1, if_neg c2] at e
        exact absurd e.symm ((hnew hC).1 j (by omega))
      · simp only [if_neg c1, if_pos c2] at e
        exact absurd e ((hnew hC).1 i (by omega))
      · simp only [if_neg c1, if_neg c2] at e
        exact hM.inj hC i j (by omega) (by omega) e
    · intro i hi
      by_cases e : i = N
      · subst e; simp only [if_true]; exact hR.nil
      · simp only [if_neg e]; exact hM.nil i (by omega)

end Go.Proofs.Ytffnpokceomncaa

namespace Go.Proofs.Ytffnpokceomncaa
open Go.RowKit
set_option linter.unusedVariables false

theorem exists_least {P : Nat → Prop} : ∀ b, P b → ∃ c, P c ∧ ∀ k, k < c → ¬ P k := by
  intro b
  induction b using Nat.strongRecOn with
  | _ b ih =>
    intro hb
    by_cases h : ∃ k, k < b ∧ P k
    · obtain ⟨k, h1, h2⟩ := h
      exact ih k h1 h2
    · exact ⟨b, hb, fun k hk hP => h ⟨k, hk, hP⟩⟩
theorem inv_first {p : Nat} (hp : PrimeP p) (a : Nat) (ha : a < 8) (h0 : 0 < a) (h1 : a < p) : ∃ b, b < 8 ∧ 0 < b ∧ b < p ∧ a * b % p = 1 ∧ ∀ k, k < b → 0 < k → a * k % p ≠ 1 := by
  obtain ⟨b, h2, h3, h4, h5⟩ := inv_nat hp a ha h0 h1
  obtain ⟨c, ⟨c1, c2, c3⟩, c4⟩ := exists_least (P := fun b => 0 < b ∧ b < p ∧ a * b % p = 1) b ⟨h3, h4, h5⟩
  have := hp.le
  exact ⟨c, by omega, c1, c2, c3, fun k hk hk0 e => c4 k hk ⟨hk0, by omega, e⟩⟩
set_option maxHeartbeats 1000000 in
theorem c_fieldInverse (a p : Nat) (hp : PrimeP p) (h0 : 0 < a) (h1 : a < p) : ∃ b : Nat, b < p ∧ ((a : Int) * b) % (p : Int) = 1 ∧ ∀ {B : Nat} {W : World} (u : Later B W),
    Calls Try.prog 35 #[.int .i64 a, .int .i64 p] u.val (Ret B W (.int .i64 b)) := by
  have hp7 := hp.le
  obtain ⟨b0, _, hb0, hbp, hb, hfirst⟩ := inv_first hp a (by omega) h0 h1
  refine ⟨b0, hbp, ?_, ?_⟩
  · rw [show ((a : Int) * b0) = ((a * b0 : Nat) : Int) by simp]
    have : ((a * b0 : Nat) : Int) % (p : Int) = ((a * b0 % p : Nat) : Int) := rfl
    rw [this, hb]; rfl
  intro B W u
  go_enter Try.func35, Try.ntmps35
  go_wp2
  go_loopw [5] (fun i wr => ∃ (k : Nat) (v : Later B W), 1 ≤ k ∧ k ≤ b0 ∧ i = .int .i64 k ∧ wr = v.val) (fun i _ => p - (intOf i).toNat)
  case atStart => exact ⟨1, u, by omega, by omega, by simp, rfl⟩
  case round =>
    obtain ⟨k, v, hk1, hk2, rfl, rfl⟩ := hrel
    have hkp : k < p := by omega
    have hm : a * k < 64 := by
      have := Nat.mul_lt_mul'' (show a < 8 by omega) (show k < 8 by omega)
      omega
    have w1 := IntWalk.i64_in ((a : Int) * k) (by
      have e : ((a : Int) * k) = ((a * k : Nat) : Int) := by simp
      omega)
    have e1 : ((a : Int) * k).tmod (p : Int) = ((a * k % p : Nat) : Int) := by
      rw [show ((a : Int) * k) = ((a * k : Nat) : Int) by simp]
      rfl
    have hp0 : (p : Int) ≠ 0 := by omega
    have hml : a * k % p < p := Nat.mod_lt _ (by omega)
    have HF := Lib.hid (hfirst k)
    have hcase : k = b0 ∨ k < b0 := by omega
    rcases hcase with rfl | hlt
    · rw [hb] at e1
      have tm : Int.tmod ((a : Int) * k) (p : Int) = 1 := by simpa using e1
      clear e1 hfirst hb HF hml
      go_wp2
      go_ret
      exact Ret.mk v rfl
    · have hne := HF.out hlt (by omega)
      clear hb hfirst HF
      generalize hr : a * k % p = rr at *
      have f1 : ((rr : Int) == 1) = false := by rw [beq_eq_false_iff_ne]; omega
      have f2 : (rr == 1) = false := by rw [beq_eq_false_iff_ne]; exact hne
      clear hr
      go_wp2
      go_roundw
      case rel => exact ⟨k + 1, v, by omega, by omega, by go_num, by trivial⟩
      case measure => simp [intOf]; omega

theorem rowO_of_own {B : Nat} {w : World} {ad : Option Addr} {cp C : Nat} {xs : List Int} (h : Own B w ad cp xs) (hC : xs.length = C) : ∃ rr, RowO B w C ad rr cp (fun j => xs.getD j 0) ∧ (0 < C → B ≤ rr) := by
  by_cases h0 : 0 < C
  · obtain ⟨g, rfl⟩ := own_some h (by rintro rfl; simp at hC; omega)
    have e : tabL C (fun j => xs.getD j 0) = xs := by
      apply List.ext_getElem
      · rw [tabL_len, hC]
      · intro k h1 h2
        simp [tabL, List.getElem?_eq_getElem h2]
    exact ⟨g, ⟨fun _ => rfl, fun _ => by rw [e]; exact h, fun e => by cases e⟩, fun _ => h.ltL.1⟩
  · exact ⟨0, ⟨fun h => absurd h h0, fun h => absurd h h0, h.cap⟩, fun h => absurd h h0⟩
theorem RowO.mono {B B' : Nat} {w : World} {C : Nat} {hd : Option Addr} {r cp : Nat} {Q : Nat → Int} (h : RowO B w C hd r cp Q) (hb : B' ≤ B) : RowO B' w C hd r cp Q := ⟨h.hdr, fun hC => (h.row hC).mono hb, h.nil⟩

set_option maxRecDepth 100000 in
set_option maxHeartbeats 8000000 in
theorem c_twin {B : Nat} {W : World} (u : Later B W) (p c : Int) (rows : Lls) (a : Option Addr) (cap C : Nat) (h : RowsI B W a rows) (hN : rows.length ≤ 6) (hC : C ≤ 8) (hrl : ∀ i, i < rows.length → (rows.getD i []).length = C) :
    Calls Try.prog 34 #[.agg #[.int .i64 p, .int .i64 c, .slice a rows.length cap]] u.val (RetP B W (fun v w => ∃ ad gc hd r cp, v = .agg #[.int .i64 p, .int .i64 c, .slice ad rows.length gc] ∧ Mtx B w ad gc rows.length C hd r cp (ent rows))) := by
  have hB := u.size
  have hs0 : (u.val.alloc (.cells #[.int .i64 p, .int .i64 c, .slice a rows.length cap] 24)).heap.size = u.val.heap.size + 1 := by simp
  have hs1 : ((u.val.alloc (.cells #[.int .i64 p, .int .i64 c, .slice a rows.length cap] 24)).alloc (.cells #[.int .i64 0, .int .i64 0, .slice none 0 0] 24)).heap.size = u.val.heap.size + 1 + 1 := by simp
  have T0 : Hid (RowL (((u.val.alloc (.cells #[.int .i64 p, .int .i64 c, .slice a rows.length cap] 24)).alloc (.cells #[.int .i64 0, .int .i64 0, .slice none 0 0] 24)).alloc (.cells #[.int .i64 p, .int .i64 c, .slice none 0 0] 24)) u.val.heap.size 24 [.int .i64 p, .int .i64 c, .slice a rows.length cap]) := Lib.hid (((RowL.new u.val 24 _).keep ((Below.refl _ _).alloc (Nat.le_refl _) _)).keep ((Below.refl _ _).alloc (Nat.le_refl _) _))
  have T1 : Hid (RowL (((u.val.alloc (.cells #[.int .i64 p, .int .i64 c, .slice a rows.length cap] 24)).alloc (.cells #[.int .i64 0, .int .i64 0, .slice none 0 0] 24)).alloc (.cells #[.int .i64 p, .int .i64 c, .slice none 0 0] 24)) (u.val.heap.size + 1) 24 [.int .i64 0, .int .i64 0, .slice none 0 0]) := Lib.hid (by
    have h := (RowL.new (u.val.alloc (.cells #[.int .i64 p, .int .i64 c, .slice a rows.length cap] 24)) 24 [.int .i64 0, .int .i64 0, .slice none 0 0]).keep ((Below.refl _ _).alloc (Nat.le_refl _) (.cells #[.int .i64 p, .int .i64 c, .slice none 0 0] 24))
    rwa [hs0] at h)
  have T2 : Hid (RowL (((u.val.alloc (.cells #[.int .i64 p, .int .i64 c, .slice a rows.length cap] 24)).alloc (.cells #[.int .i64 0, .int .i64 0, .slice none 0 0] 24)).alloc (.cells #[.int .i64 p, .int .i64 c, .slice none 0 0] 24)) (u.val.heap.size + 1 + 1) 24 [.int .i64 p, .int .i64 c, .slice none 0 0]) := Lib.hid (by
    have h := RowL.new ((u.val.alloc (.cells #[.int .i64 p, .int .i64 c, .slice a rows.length cap] 24)).alloc (.cells #[.int .i64 0, .int .i64 0, .slice none 0 0] 24)) 24 [.int .i64 p, .int .i64 c, .slice none 0 0]
    rwa [hs1] at h)
  have HZ : Hid ((((u.val.alloc (.cells #[.int .i64 p, .int .i64 c, .slice a rows.length cap] 24)).alloc (.cells #[.int .i64 0, .int .i64 0, .slice none 0 0] 24)).alloc (.cells #[.int .i64 p, .int .i64 c, .slice none 0 0] 24)).heap.size = u.val.heap.size + 1 + 1 + 1) := Lib.hid (by simp)
  have HV : Hid (∀ v : Later (u.val.heap.size + 1 + 1) (((u.val.alloc (.cells #[.int .i64 p, .int .i64 c, .slice a rows.length cap] 24)).alloc (.cells #[.int .i64 0, .int .i64 0, .slice none 0 0] 24)).alloc (.cells #[.int .i64 p, .int .i64 c, .slice none 0 0] 24)), ∀ w : World, Below (u.val.heap.size + 1) v.val w → ∃ x : Later B W, x.val = w) := Lib.hid (fun v w hb => ⟨⟨w, ((((u.alloc _).alloc _).alloc _).below.trans (v.below.mono (by omega))).trans (hb.mono (by omega)), by have := v.size; have := hb.size; omega⟩, rfl⟩)
  have HR : Hid (RowsI (((u.val.alloc (.cells #[.int .i64 p, .int .i64 c, .slice a rows.length cap] 24)).alloc (.cells #[.int .i64 0, .int .i64 0, .slice none 0 0] 24)).alloc (.cells #[.int .i64 p, .int .i64 c, .slice none 0 0] 24)).heap.size (((u.val.alloc (.cells #[.int .i64 p, .int .i64 c, .slice a rows.length cap] 24)).alloc (.cells #[.int .i64 0, .int .i64 0, .slice none 0 0] 24)).alloc (.cells #[.int .i64 p, .int .i64 c, .slice none 0 0] 24)) a rows) := Lib.hid (h.to (((u.alloc _).alloc _).alloc _))
  have HRo : Hid (RowsI B (((u.val.alloc (.cells #[.int .i64 p, .int .i64 c, .slice a rows.length cap] 24)).alloc (.cells #[.int .i64 0, .int .i64 0, .slice none 0 0] 24)).alloc (.cells #[.int .i64 p, .int .i64 c, .slice none 0 0] 24)) a rows) := Lib.hid (h.later (((u.alloc _).alloc _).alloc _).below)
  have HRl := Lib.hid hrl
  clear h hrl hs0 hs1
  go_enter Try.func34, Try.ntmps34
  go_upto_region 2 with fail
  generalize (((u.val.alloc (.cells #[.int .i64 p, .int .i64 c, .slice a rows.length cap] 24)).alloc (.cells #[.int .i64 0, .int .i64 0, .slice none 0 0] 24)).alloc (.cells #[.int .i64 p, .int .i64 c, .slice none 0 0] 24)) = X at *
  generalize u.val.heap.size = g0 at *
  have hgB : B ≤ g0 := hB
  clear u hB
  have q2 : ∀ v : Later (g0 + 1 + 1) X, v.val.cell? ⟨g0, 2, none⟩ = some (.slice a rows.length cap) := fun v => (T0.out.keep_at v.below (by omega)).cell rfl
  obtain ⟨z, hz⟩ : ∃ z : Later (g0 + 1 + 1) X, z.val = X := ⟨⟨X, Below.refl _ _, by rw [HZ.out]; omega⟩, rfl⟩
  have q2z := q2 z
  rw [hz] at q2z
  go_wp2
  clear q2z
  go_loopw [14] (fun i wr => ∃ (k : Nat) (v : Later (g0 + 1 + 1) X) (ad : Option Addr) (gc : Nat) (hd : Nat → Option Addr) (r cp : Nat → Nat), k ≤ rows.length ∧ i = .int .i64 k ∧ wr = v.val ∧ Hid (g0 + 1 + 1 + 1 ≤ v.val.heap.size) ∧ Hid (RowL v.val (g0 + 1 + 1) 24 [.int .i64 p, .int .i64 c, .slice ad k gc]) ∧ Hid (Mtx (g0 + 1 + 1 + 1) v.val ad gc k C hd r cp (ent rows))) (fun i _ => rows.length - (intOf i).toNat)
  case atStart => exact ⟨0, z, none, 0, fun _ => none, fun _ => 0, fun _ => 0, by omega, rfl, hz.symm, Lib.hid (by rw [hz, HZ.out]; omega), Lib.hid (by rw [hz]; exact T2.out), Lib.hid (Mtx.start _ _ _ _ _ _ _)⟩
  case round =>
    clear hz z
    obtain ⟨k, v, ad, gc, hd, r, cp, hk, rfl, rfl, HS, HB, HM⟩ := hrel
    by_cases hlt : k < rows.length
    · obtain ⟨be, ofe, rfl, hbe, ad', cp', hI, hn, hcell⟩ := HRo.out.atN hlt
      have hrk := HRl.out k hlt
      have hcv : ∀ w : World, Below (g0 + 1 + 1) X w → w.cell? ⟨be, ofe + k, none⟩ = some (.slice ad' (rows.getD k []).length cp') := fun w hb => by
        rw [World.cell?_of_block (w := X) (hb.block be (by omega))]
        exact hcell (⟨X, Below.refl _ _, by rw [HZ.out]; omega⟩ : Later B X)
      have c0 := hcv _ v.below
      have HIv : Hid (IntsAt v.val.drew.heap.size v.val.drew ad' (rows.getD k [])) := Lib.hid ((hI.later (v.below.mono (by omega))).mono (by show B ≤ v.val.heap.size; have := HS.out; omega))
      have HEnt : Hid (∀ j, ent rows k j = (rows.getD k []).getD j 0) := Lib.hid (fun _ => rfl)
      have KC := Lib.hid (c_cloneM (Later.self v.val.drew) (rows.getD k []) ad' cp' HIv.out hn (by omega))
      dsimp only [Later.self] at KC
      clear hcv hI hcell
      generalize rows.getD k [] = row at *
      have hyb : ∀ y : Later v.val.drew.heap.size v.val.drew, Below v.val.heap.size v.val y.val := fun y => ((Below.refl _ _).drew).trans y.below
      have d0 : v.val.drew.cell? ⟨g0 + 1 + 1, 2, none⟩ = some (.slice ad k gc) := HB.out.cell rfl
      have d1 : ∀ y : Later v.val.drew.heap.size v.val.drew, y.val.cell? ⟨g0 + 1 + 1, 2, none⟩ = some (.slice ad k gc) := fun y => (HB.out.keep (hyb y)).cell rfl
      have d2 : ∀ (y : Later v.val.drew.heap.size v.val.drew) (o : Obj), (y.val.alloc o).cell? ⟨g0 + 1 + 1, 2, none⟩ = some (.slice ad k gc) := fun y o => d1 (y.alloc o)
      have HMy : Hid (∀ y : Later v.val.drew.heap.size v.val.drew, Mtx (g0 + 1 + 1 + 1) y.val ad gc k C hd r cp (ent rows)) := Lib.hid (fun y => HM.out.keep (hyb y))
      have HBp : Hid (∀ (y : Later v.val.drew.heap.size v.val.drew) (ar : Option Addr) (rr cr : Nat) (Q : Nat → Int) (pp : PushM (g0 + 1 + 1 + 1) y.val ad gc k C hd r cp (ent rows) ar rr cr Q), RowL pp.val (g0 + 1 + 1) 24 [.int .i64 p, .int .i64 c, .slice ad k gc]) := Lib.hid (fun y ar rr cr Q pp => (HB.out.keep (hyb y)).keep_at pp.below (by omega))
      have d3 : ∀ (y : Later v.val.drew.heap.size v.val.drew) (ar : Option Addr) (rr cr : Nat) (Q : Nat → Int) (pp : PushM (g0 + 1 + 1 + 1) y.val ad gc k C hd r cp (ent rows) ar rr cr Q), pp.val.cell? ⟨g0 + 1 + 1, 2, none⟩ = some (.slice ad k gc) := fun y ar rr cr Q pp => (HBp.out y ar rr cr Q pp).cell rfl
      have d4 : ∀ (y : Later v.val.drew.heap.size v.val.drew) (ar : Option Addr) (rr cr : Nat) (Q : Nat → Int) (pp : PushM (g0 + 1 + 1 + 1) y.val ad gc k C hd r cp (ent rows) ar rr cr Q), pp.val.frozen? ⟨g0 + 1 + 1, 2, none⟩ = false := fun y ar rr cr Q pp => (HBp.out y ar rr cr Q pp).fz 2
      have HRn : Hid (∀ (y : Later v.val.drew.heap.size v.val.drew) (adC : Option Addr) (cpC : Nat), Own v.val.drew.heap.size y.val adC cpC row → ∃ rr, RowO (g0 + 1 + 1 + 1) y.val C adC rr cpC (fun j => row.getD j 0) ∧ (0 < C → (∀ i, i < k → r i ≠ rr) ∧ ∀ g, ad = some ⟨g, 0, none⟩ → rr ≠ g)) := Lib.hid (fun y adC cpC hO => by
        obtain ⟨rr, h1, h2⟩ := rowO_of_own hO hrk
        refine ⟨rr, h1.mono (by have := HS.out; exact this), fun hC0 => ⟨fun i hi e => ?_, fun g hg e => ?_⟩⟩
        · have := (HM.out.rlt hC0 hi).2
          have := h2 hC0
          have e3 : v.val.drew.heap.size = v.val.heap.size := rfl
          omega
        · have := h2 hC0
          rcases HM.out.form with ⟨e1, _⟩ | ⟨g', e1, e2⟩
          · rw [hg] at e1; cases e1
          · rw [hg] at e1
            cases e1
            have e3 : v.val.drew.heap.size = v.val.heap.size := rfl
            omega)
      have hBy : Hid (∀ y : Later v.val.drew.heap.size v.val.drew, g0 + 1 + 1 + 1 ≤ y.val.heap.size) := Lib.hid (fun y => by have := y.size; have := HS.out; have e3 : v.val.drew.heap.size = v.val.heap.size := rfl; omega)
      have hk1 : k + 1 ≤ 4294967296 := by omega
      go_upto_region 5 with fail
      rw [hrk] at KC
      go_region_law (first | ((refine step_pushM (w := y2.val) (HMy.out y2) hRO hRN (hBy.out y2) (by rfl) _ _ (by rfl) (by rfl) (by rfl) hk1 ?_; intro pp)) | (go_simp; go_at_call 57; (with_reducible refine (KC.out).mono ?_); rintro e _ ⟨_, rfl, ⟨adC, cpC, rfl, hC⟩, y2, rfl⟩; obtain ⟨rr, hRO, hRN⟩ := HRn.out y2 adC cpC hC))
      all_goals
        have HMp : Hid (Mtx (g0 + 1 + 1 + 1) (pp.val.setCell ⟨g0 + 1 + 1, 2, none⟩ (.slice (some ⟨pp.g, 0, none⟩) (k + 1) pp.gc')) (some ⟨pp.g, 0, none⟩) pp.gc' (k + 1) C (fun i => if i = k then adC else hd i) (fun i => if i = k then rr else r i) (fun i => if i = k then cpC else cp i) (ent rows)) := Lib.hid ((pp.out.old (by omega) _).congr (fun i j hi hj => by
          by_cases e : i = k
          · subst e; rw [if_pos rfl, HEnt.out]
          · rw [if_neg e]))
        have HBn : Hid (RowL (pp.val.setCell ⟨g0 + 1 + 1, 2, none⟩ (.slice (some ⟨pp.g, 0, none⟩) (k + 1) pp.gc')) (g0 + 1 + 1) 24 [.int .i64 p, .int .i64 c, .slice (some ⟨pp.g, 0, none⟩) ((k + 1 : Nat)) pp.gc']) := Lib.hid ((HBp.out y2 adC rr cpC _ pp).set 2 _)
        obtain ⟨x, hx⟩ : ∃ x : Later (g0 + 1 + 1) X, x.val = pp.val.setCell ⟨g0 + 1 + 1, 2, none⟩ (.slice (some ⟨pp.g, 0, none⟩) (k + 1) pp.gc') := ⟨⟨_, (v.below.trans ((hyb y2).mono (by have := HS.out; omega))).trans ((pp.below.mono (by omega)).trans (below_set (Nat.le_refl _) _)), by have := pp.below.size; have := hBy.out y2; simp; omega⟩, rfl⟩
        have HSn : Hid (g0 + 1 + 1 + 1 ≤ x.val.heap.size) := Lib.hid (by rw [hx]; have := pp.below.size; have := hBy.out y2; simp; omega)
        rw [← hx] at HMp HBn
        go_wp2
        go_roundw
        case rel => exact ⟨k + 1, x, _, _, _, _, _, by omega, by go_num, hx.symm, HSn, HBn, HMp⟩
        case measure => simp [intOf]; omega
    · have hke : k = rows.length := by omega
      subst hke
      have F0 : v.val.cell? ⟨g0 + 1 + 1, 0, none⟩ = some (.int .i64 p) := HB.out.cell rfl
      have F1 : v.val.cell? ⟨g0 + 1 + 1, 1, none⟩ = some (.int .i64 c) := HB.out.cell rfl
      have F2 : v.val.cell? ⟨g0 + 1 + 1, 2, none⟩ = some (.slice ad rows.length gc) := HB.out.cell rfl
      have T1v := T1.out.keep_at v.below (by omega)
      have Z0 : v.val.frozen? ⟨g0 + 1, 0, none⟩ = false := T1v.fz 0
      have Z1 : ∀ x : Value, (v.val.setCell ⟨g0 + 1, 0, none⟩ x).frozen? ⟨g0 + 1, 1, none⟩ = false := fun x => (T1v.set 0 x).fz 1
      have Z2 : ∀ x y : Value, ((v.val.setCell ⟨g0 + 1, 0, none⟩ x).setCell ⟨g0 + 1, 1, none⟩ y).frozen? ⟨g0 + 1, 2, none⟩ = false := fun x y => ((T1v.set 0 x).set 1 y).fz 2
      have G0 : v.val.cell? ⟨g0 + 1, 0, none⟩ = some (.int .i64 0) := T1v.cell rfl
      have G1 : ∀ x : Value, (v.val.setCell ⟨g0 + 1, 0, none⟩ x).cell? ⟨g0 + 1, 1, none⟩ = some (.int .i64 0) := fun x => (T1v.set 0 x).cell rfl
      have G2 : ∀ x y : Value, ((v.val.setCell ⟨g0 + 1, 0, none⟩ x).setCell ⟨g0 + 1, 1, none⟩ y).cell? ⟨g0 + 1, 2, none⟩ = some (.slice none 0 0) := fun x y => ((T1v.set 0 x).set 1 y).cell rfl
      have HT1 := Lib.hid T1v
      have hvs := HS.out
      clear T1v
      go_wp2
      refine bodyPost_ret (results_cell_row rfl _ _ (g0 + 1) 24 #[.int .i64 p, .int .i64 c, .slice ad rows.length gc] (0, 0) _ rfl (((HT1.out.set 0 _).set 1 _).set 2 _) Try.underlying24 rfl (by kernel_rfl)) rfl ?_
      obtain ⟨z, hz⟩ := HV.out v (((v.val.setCell ⟨g0 + 1, 0, none⟩ (.int .i64 p)).setCell ⟨g0 + 1, 1, none⟩ (.int .i64 c)).setCell ⟨g0 + 1, 2, none⟩ (.slice ad rows.length gc)) (((below_set (Nat.le_refl _) _).trans (below_set (Nat.le_refl _) _)).trans (below_set (Nat.le_refl _) _))
      refine RetP.of ⟨z, hz⟩ ?_
      exact ⟨ad, gc, hd, r, cp, rfl, (((HM.out.old (by omega) _).old (by omega) _).old (by omega) _).mono (by omega)⟩

end Go.Proofs.Ytffnpokceomncaa
