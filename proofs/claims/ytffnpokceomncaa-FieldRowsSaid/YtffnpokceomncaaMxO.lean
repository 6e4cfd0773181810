
/-
  Matrices of the call's own: rows that were made one by one; slices.Clone by hand.
-/
import Derived.Test.YtffnpokceomncaaMx
import Derived.Test.YtffnpokceomncaaMfCut
import Derived.Test.YtffnpokceomncaaBox0
import Derived.Test.YtffnpokceomncaaBox1
import Derived.Test.YtffnpokceomncaaGridT
import Derived.Laws.OwnMore
import Derived.Deep.AppendLies
import Derived.Deep.Onto
import Derived.Test.YtffnpokceomncaaGePl
namespace Go.Proofs.Ytffnpokceomncaa
open Go.RowKit
set_option linter.unusedVariables false

set_option maxHeartbeats 1000000 in
theorem c_cloneM {B : Nat} {W : World} (u : Later B W) (xs : List Int) (ad : Option Addr) (cap : Nat) (h : IntsAt B W ad xs) (hn : ad = none → cap = 0) (hlen : xs.length ≤ 1048576) :
    Calls Try.prog 57 #[.slice ad xs.length cap] u.val (RetOwn B W xs) := by
  cases ad with
  | none =>
    have hc := hn rfl
    subst hc
    have hx : xs = [] := by
      by_cases e : xs = []
      · exact e
      · obtain ⟨b, off, e2, _⟩ := h e; cases e2
    subst hx
    have heq : ∀ w : World, (binOp .eql 35 (.slice none 0 0) (.slice none 0 0)).run Try.prog w = .ok (.bool true) w := fun w => by simp only [binOp]; simp [run_equal_slice_nil w 35 3 none 0 0 Try.underlying35]
    clear h hn
    go_enter Try.func57, Try.ntmps57
    go_wp2
    go_ret
    exact RetP.mk u ⟨none, 0, rfl, Own.nil _ _⟩
  | some x =>
    have HI : Hid (IntsAt (u.val.alloc (.cells #[] 3)).heap.size (u.val.alloc (.cells #[] 3)) (some x) xs) := Lib.hid (h.to (u.alloc _))
    have hB := u.size
    have HO : Hid (Own B (u.val.alloc (.cells #[] 3)) (some ⟨u.val.heap.size, 0, none⟩) 0 []) := Lib.hid ⟨rfl, .inr ⟨u.val.heap.size, 0, #[], rfl, hB, heap_alloc_new _ _, by simp, by simp [maxLen], by simp, by simp⟩⟩
    have heq : ∀ w : World, (binOp .eql 35 (.slice (some x) xs.length cap) (.slice none 0 0)).run Try.prog w = .ok (.bool false) w := fun w => by simp only [binOp]; simp [run_equal_slice_nil w 35 3 (some x) xs.length cap Try.underlying35]
    clear h hn
    go_enter Try.func57, Try.ntmps57
    go_wp2_with (first | (at_builtin; refine wpList_appends_g (B := B) (by simp; omega) rfl _ _ rfl [] (some ⟨u.val.heap.size, 0, none⟩) 0 rfl HO.out xs (some x) cap rfl HI.out (by simp) (by simp; omega) ?_; intro w' ad' cap' hown hgrow) | fail)
    go_ret
    refine RetP.mk ((u.alloc (.cells #[] 3)).to w' (own_below (Below.refl _ _) (u.alloc (.cells #[] 3)).size HO.out hgrow)) ⟨ad', cap', rfl, hown⟩

theorem ownsRow_other {B : Nat} {w : World} {e : TypeId} {n : Nat} {v : Value} {m : Nat} {xs : List Value} (h : w.ownsRow B e n v m xs) {b i : Nat} (hne : v.ownBlock ≠ some b) (x : Value) : (w.setCell ⟨b, i, none⟩ x).ownsRow B e n v m xs :=
  World.ownsRow.kept (row := some b) h ⟨rfl, rfl, rfl, by simp, fun k _ hk => Below.heap_setCell _ _ _ _ (by rintro rfl; exact hk rfl)⟩ (.inr hne)
theorem below_set {C : Nat} {w : World} {b i : Nat} (hb : C ≤ b) (x : Value) : Below C w (w.setCell ⟨b, i, none⟩ x) := ⟨rfl, rfl, rfl, by simp, fun k hk => Below.heap_setCell _ _ _ _ (by show k ≠ b; omega)⟩
theorem Own.far2 {B : Nat} {w : World} {g cap : Nat} {xs : List Int} (h : Own B w (some ⟨g, 0, none⟩) cap xs) {b i : Nat} (hne : g ≠ b) (x : Value) : Own B (w.setCell ⟨b, i, none⟩ x) (some ⟨g, 0, none⟩) cap xs :=
  ownsRow_other h (by simp [Value.ownBlock]; exact hne) x
theorem Own.cellL {B : Nat} {w : World} {g cap n : Nat} {A : Nat → Int} (h : Own B w (some ⟨g, 0, none⟩) cap (tabL n A)) {i : Nat} (hi : i < n) : w.cell? ⟨g, i, none⟩ = some (.int .i64 (A i)) := by
  unfold Own at h
  rw [World.ownsRow.cellAt h i (by rw [tabL_len]; omega)]
  simp [tabL, hi]
theorem Own.fzL {B : Nat} {w : World} {g cap : Nat} {xs : List Int} (h : Own B w (some ⟨g, 0, none⟩) cap xs) (i : Nat) : w.frozen? ⟨g, i, none⟩ = false := World.ownsRow.frozenAt h i
theorem Own.ltL {B : Nat} {w : World} {g cap : Nat} {xs : List Int} (h : Own B w (some ⟨g, 0, none⟩) cap xs) : B ≤ g ∧ g < w.heap.size := World.ownsRow.lt h g rfl
theorem Own.setL {B : Nat} {w : World} {g cap n : Nat} {A A' : Nat → Int} (h : Own B w (some ⟨g, 0, none⟩) cap (tabL n A)) (i : Nat) (v : Int) (e : ∀ j, j < n → A' j = if j = i then v else A j) : Own B (w.setCell ⟨g, i, none⟩ (.int .i64 v)) (some ⟨g, 0, none⟩) cap (tabL n A') := by
  unfold Own at h ⊢
  rw [tabL_len] at h ⊢
  have := (World.ownsRow.stored h i (.int .i64 v)).1
  rwa [show (tabL n A').map (Value.int .i64) = ((tabL n A).map (Value.int .i64)).set i (.int .i64 v) from by
    apply List.ext_getElem
    · simp [tabL]
    · intro k h1 h2
      simp [tabL] at h1
      rw [List.getElem_set]
      simp only [tabL, List.getElem_map, List.getElem_range]
      rw [e k h1]
      by_cases c : k = i
      · subst c; simp
      · rw [if_neg c, if_neg (fun h => c h.symm)]]

/-- N rows of C numbers each, under a row of slices: row i in block r i -/
structure Mtx (B : Nat) (w : World) (ad : Option Addr) (gc N C : Nat) (hd : Nat → Option Addr) (r cp : Nat → Nat) (P : Nat → Nat → Int) : Prop where
  top : w.ownsRow B 35 1 (.slice ad N gc) N ((List.range N).map (fun i => Value.slice (hd i) C (cp i)))
  hdr : 0 < C → ∀ i, i < N → hd i = some ⟨r i, 0, none⟩
  row : 0 < C → ∀ i, i < N → Own B w (some ⟨r i, 0, none⟩) (cp i) (tabL C (P i))
  ne : 0 < C → ∀ i, i < N → ∀ g, ad = some ⟨g, 0, none⟩ → r i ≠ g
  inj : 0 < C → ∀ i j, i < N → j < N → r i = r j → i = j
  nil : ∀ i, i < N → hd i = none → cp i = 0
namespace Mtx
variable {B : Nat} {w : World} {ad : Option Addr} {gc N C : Nat} {hd : Nat → Option Addr} {r cp : Nat → Nat} {P : Nat → Nat → Int}
theorem start (B : Nat) (w : World) (C : Nat) (hd : Nat → Option Addr) (r cp : Nat → Nat) (P : Nat → Nat → Int) : Mtx B w none 0 0 C hd r cp P :=
  ⟨World.ownsRow_nil _ _ _ _, fun _ i hi => by omega, fun _ i hi => by omega, fun _ i hi => by omega, fun _ i j hi => by omega, fun i hi => by omega⟩
theorem some' (h : Mtx B w ad gc N C hd r cp P) (hN : 0 < N) : ∃ g, ad = some ⟨g, 0, none⟩ ∧ B ≤ g ∧ g < w.heap.size := by
  rcases h.top.2 with ⟨_, hz⟩ | ⟨g, c, cur, e, hb, hh, _⟩
  · omega
  · simp only [Value.slice.injEq] at e
    exact ⟨g, e.1, hb, (Array.getElem?_eq_some_iff.1 hh).1⟩
theorem room (h : Mtx B w ad gc N C hd r cp P) : N ≤ gc := by
  rcases h.top.2 with ⟨_, hz⟩ | ⟨g, c, cur, e, hb, hh, hn, _⟩
  · omega
  · simp only [Value.slice.injEq] at e
    omega
theorem form (h : Mtx B w ad gc N C hd r cp P) : (ad = none ∧ gc = 0 ∧ N = 0) ∨ ∃ g, ad = some ⟨g, 0, none⟩ ∧ B ≤ g ∧ g < w.heap.size := by
  rcases h.top.2 with ⟨e, hz⟩ | ⟨g, c, cur, e, hb, hh, hn, _⟩
  · simp only [Value.slice.injEq] at e
    exact .inl ⟨e.1, e.2.2, hz⟩
  · simp only [Value.slice.injEq] at e
    exact .inr ⟨g, e.1, hb, (Array.getElem?_eq_some_iff.1 hh).1⟩
theorem tcell {g : Nat} (h : Mtx B w (some ⟨g, 0, none⟩) gc N C hd r cp P) {i : Nat} (hi : i < N) : w.cell? ⟨g, i, none⟩ = some (.slice (hd i) C (cp i)) := by
  rw [World.ownsRow.cellAt h.top i (by omega)]
  simp [hi]
theorem tfz {g : Nat} (h : Mtx B w (some ⟨g, 0, none⟩) gc N C hd r cp P) (i : Nat) : w.frozen? ⟨g, i, none⟩ = false := World.ownsRow.frozenAt h.top i
theorem cell (h : Mtx B w ad gc N C hd r cp P) {i j : Nat} (hi : i < N) (hj : j < C) : w.cell? ⟨r i, j, none⟩ = some (.int .i64 (P i j)) := (h.row (by omega) i hi).cellL hj
theorem fz (h : Mtx B w ad gc N C hd r cp P) (hC : 0 < C) {i : Nat} (hi : i < N) (j : Nat) : w.frozen? ⟨r i, j, none⟩ = false := (h.row hC i hi).fzL j
theorem rlt (h : Mtx B w ad gc N C hd r cp P) (hC : 0 < C) {i : Nat} (hi : i < N) : B ≤ r i ∧ r i < w.heap.size := (h.row hC i hi).ltL
theorem keep {w' : World} (h : Mtx B w ad gc N C hd r cp P) (hb : Below w.heap.size w w') : Mtx B w' ad gc N C hd r cp P :=
  ⟨World.ownsRow.kept (row := none) h.top ⟨hb.os, hb.tape, hb.output, hb.size, fun k hk _ => hb.block k hk⟩ (by cases (Value.slice ad N gc).ownBlock <;> simp), h.hdr, fun hC i hi => (h.row hC i hi).keep hb, h.ne, h.inj, h.nil⟩
theorem mono {B' : Nat} (h : Mtx B w ad gc N C hd r cp P) (hb : B' ≤ B) : Mtx B' w ad gc N C hd r cp P :=
  ⟨World.ownsRow.mono h.top hb, h.hdr, fun hC i hi => (h.row hC i hi).mono hb, h.ne, h.inj, h.nil⟩
theorem congr (h : Mtx B w ad gc N C hd r cp P) {P' : Nat → Nat → Int} (e : ∀ i j, i < N → j < C → P i j = P' i j) : Mtx B w ad gc N C hd r cp P' :=
  ⟨h.top, h.hdr, fun hC i hi => by rw [← tabL_congr (fun j hj => e i j hi hj)]; exact h.row hC i hi, h.ne, h.inj, h.nil⟩
/-- older blocks are written -/
theorem old (h : Mtx B w ad gc N C hd r cp P) {b i : Nat} (hb : b < B) (x : Value) : Mtx B (w.setCell ⟨b, i, none⟩ x) ad gc N C hd r cp P :=
  ⟨ownsRow_other h.top (fun e => by
    have := (World.ownsRow.lt h.top b e).1
    omega) x, h.hdr, fun hC i hi => (h.row hC i hi).set hb x, h.ne, h.inj, h.nil⟩
/-- one number is written -/
theorem set (h : Mtx B w ad gc N C hd r cp P) (hC : 0 < C) {a : Nat} (ha : a < N) (b : Nat) (x : Int) : Mtx B (w.setCell ⟨r a, b, none⟩ (.int .i64 x)) ad gc N C hd r cp (setM P a b x) where
  top := ownsRow_other h.top (fun e => by
    rcases h.form with ⟨rfl, rfl, rfl⟩ | ⟨g, rfl, _⟩
    · omega
    · exact h.ne hC a ha g rfl (by cases e; rfl)) _
  hdr := h.hdr
  row := fun _ i hi => by
    by_cases c : i = a
    · subst c
      exact (h.row hC i hi).setL b x (fun j hj => by unfold setM; by_cases e : j = b <;> simp [e])
    · have h1 := (h.row hC i hi).far2 (b := r a) (i := b) (fun e => c (h.inj hC i a hi ha e)) (.int .i64 x)
      rwa [tabL_congr (A' := setM P a b x i) (fun j hj => by unfold setM; rw [if_neg (fun e => c e.1)])] at h1
  ne := h.ne
  inj := h.inj
  nil := h.nil
/-- two rows change places -/
theorem swap {g : Nat} (h : Mtx B w (some ⟨g, 0, none⟩) gc N C hd r cp P) {a b : Nat} (ha : a < N) (hb : b < N) : Mtx B ((w.setCell ⟨g, a, none⟩ (.slice (hd b) C (cp b))).setCell ⟨g, b, none⟩ (.slice (hd a) C (cp a))) (some ⟨g, 0, none⟩) gc N C (fun i => hd (swp a b i)) (fun i => r (swp a b i)) (fun i => cp (swp a b i)) (fun i => P (swp a b i)) where
  top := by
    have h1 := (World.ownsRow.stored h.top a (.slice (hd b) C (cp b))).1
    have h2 := (World.ownsRow.stored h1 b (.slice (hd a) C (cp a))).1
    rwa [show (List.range N).map (fun i => Value.slice (hd (swp a b i)) C (cp (swp a b i))) = (((List.range N).map (fun i => Value.slice (hd i) C (cp i))).set a (.slice (hd b) C (cp b))).set b (.slice (hd a) C (cp a)) from by
      apply List.ext_getElem
      · simp
      · intro k h1 h2
        simp at h1
        rw [List.getElem_set, List.getElem_set]
        simp only [List.getElem_map, List.getElem_range]
        unfold swp
        by_cases c2 : b = k
        · rw [if_pos c2]
          subst c2
          by_cases c1 : b = a
          · subst c1; simp
          · rw [if_neg c1, if_pos rfl]
        · rw [if_neg c2]
          by_cases c1 : a = k
          · subst c1; simp
          · rw [if_neg c1, if_neg (fun e => c1 e.symm), if_neg (fun e => c2 e.symm)]]
  hdr := fun hC i hi => h.hdr hC _ (swp_lt ha hb hi)
  row := fun hC i hi => by
    have hlt := swp_lt ha hb hi
    exact ((h.row hC _ hlt).far2 (h.ne hC _ hlt g rfl) _).far2 (h.ne hC _ hlt g rfl) _
  ne := fun hC i hi => h.ne hC _ (swp_lt ha hb hi)
  inj := fun hC i j hi hj e => by
    have := h.inj hC _ _ (swp_lt ha hb hi) (swp_lt ha hb hj) e
    have e2 := congrArg (swp a b) this
    rwa [swp_swp, swp_swp] at e2
  nil := fun i hi => h.nil _ (swp_lt ha hb hi)
end Mtx
/-- read as a list of lists -/
def mxL (N C : Nat) (P : Nat → Nat → Int) : Lls := (List.range N).map (fun i => tabL C (P i))
theorem mxL_len (N C : Nat) (P : Nat → Nat → Int) : (mxL N C P).length = N := by simp [mxL]
theorem mxL_get {N C : Nat} {P : Nat → Nat → Int} {i : Nat} (hi : i < N) : (mxL N C P).getD i [] = tabL C (P i) := by simp [mxL, hi]
theorem mxL_ent {N C : Nat} {P : Nat → Nat → Int} {i j : Nat} (hi : i < N) (hj : j < C) : ent (mxL N C P) i j = P i j := by
  unfold ent
  rw [mxL_get hi, tabL_getD hj]
theorem Mtx.rows {B : Nat} {w : World} {ad : Option Addr} {gc N C : Nat} {hd : Nat → Option Addr} {r cp : Nat → Nat} {P : Nat → Nat → Int} (h : Mtx B w ad gc N C hd r cp P) : RowsI w.heap.size w ad (mxL N C P) := fun hne => by
  have hN : 0 < N := by
    rcases Nat.eq_zero_or_pos N with e | e
    · subst e; exact absurd rfl hne
    · exact e
  obtain ⟨g, rfl, _, hlt⟩ := h.some' hN
  refine ⟨g, 0, rfl, hlt, fun i hi => ?_⟩
  rw [mxL_len] at hi
  rw [mxL_get hi, tabL_len, Nat.zero_add]
  refine ⟨hd i, cp i, h.tcell hi, ?_, h.nil i hi⟩
  by_cases hC : 0 < C
  · rw [h.hdr hC i hi]; exact (h.row hC i hi).reads
  · have : C = 0 := by omega
    subst this
    exact fun hne => absurd rfl hne
theorem swp_comm (a b k : Nat) : swp a b k = swp b a k := by
  unfold swp
  by_cases c1 : k = a <;> by_cases c2 : k = b <;> simp_all

/-- a row of the call's own -/
structure RowO (B : Nat) (w : World) (C : Nat) (hd : Option Addr) (r cp : Nat) (Q : Nat → Int) : Prop where
  hdr : 0 < C → hd = some ⟨r, 0, none⟩
  row : 0 < C → Own B w (some ⟨r, 0, none⟩) cp (tabL C Q)
  nil : hd = none → cp = 0
/-- a world in which one row more lies behind the others -/
structure PushM (B : Nat) (w : World) (ad : Option Addr) (gc N C : Nat) (hd : Nat → Option Addr) (r cp : Nat → Nat) (P : Nat → Nat → Int) (ar : Option Addr) (rr cr : Nat) (Q : Nat → Int) where
  val : World
  g : Nat
  gc' : Nat
  below : Below B w val
  out : Mtx B val (some ⟨g, 0, none⟩) gc' (N + 1) C (fun i => if i = N then ar else hd i) (fun i => if i = N then rr else r i) (fun i => if i = N then cr else cp i) (fun i => if i = N then Q else P i)
theorem step_pushM {B : Nat} {w : World} {ad : Option Addr} {gc N C : Nat} {hd : Nat → Option Addr} {r cp : Nat → Nat} {P : Nat → Nat → Int} (hM : Mtx B w ad gc N C hd r cp P) {ar : Option Addr} {rr cr : Nat} {Q : Nat → Int} (hR : RowO B w C ar rr cr Q) (hnew : 0 < C → (∀ i, i < N → r i ≠ rr) ∧ ∀ g, ad = some ⟨g, 0, none⟩ → rr ≠ g) (hB : B ≤ w.heap.size)
    {ops : Array Oper} {o : Oper} {a : Act} {K : Act → World → Prop} {Q' : Exit → Act → World → Prop} {E : Prop} (hgd : o.guard = none) (s x : Operand)
    (ho : o.op = .call { callee := .builtin .append, args := #[s, x], argTypes := #[22, 22] })
    (hs : a.eval s = .slice ad N gc) (hx : a.eval x = .slice (some ⟨w.heap.size, 0, none⟩) 1 1)
    (hlen : N + 1 ≤ 4294967296)
    (h : ∀ p : PushM B w ad gc N C hd r cp P ar rr cr Q, K (a.put o.dst (.slice (some ⟨p.g, 0, none⟩) (N + 1) p.gc')) p.val) :
    if Region.wanted o (yielded ops a.tmps) = true then Oper.wp Try.prog o a (w.alloc (.cells #[.slice ar C cr] 35)) K Q' else E := by
  obtain ⟨i0, hi, hz0, hz1, hz2⟩ := info_parts info_row
  refine step_append_lies _ hgd s x 22 ho B 35 i0 (.slice none 0 0) 1 24 Try.underlying22 hi hz0 hz1 hz2 rfl (by decide) _ N _ hs (World.ownsRow.alloc hM.top _) ⟨w.heap.size, 0, none⟩ 1 1 [.slice ar C cr] hx rfl ?_ ?_ (by decide) (by unfold maxLen; omega) (by omega) (by simp; omega) _ rfl ?_
  · intro j v hj
    have hj0 : j = 0 := by
      have := (List.getElem?_eq_some_iff.1 hj).1
      simp at this
      omega
    subst hj0
    have e : (⟨w.heap.size, 0, none⟩ : Addr).add 0 = ⟨w.heap.size, 0, none⟩ := by unfold Addr.add; split <;> simp_all
    rw [e]
    simp at hj
    subst hj
    exact cell_one_new w _ 35 0 _ rfl
  · intro v hv
    simp at hv
    subst hv
    rfl
  · intro g gc' w' h2 h3 h4 h5
    have hal : Below w.heap.size w (w.alloc (.cells #[.slice ar C cr] 35)) := (Below.refl _ _).alloc (Nat.le_refl _) _
    have hsz : (w.alloc (.cells #[.slice ar C cr] 35)).heap.size = w.heap.size + 1 := by simp
    have hgo : g = g := rfl
    have hown : ∀ k, (Value.slice ad N gc).ownBlock = some k → ad = some ⟨k, 0, none⟩ ∧ B ≤ k := fun k hk => by
      rcases hM.form with ⟨rfl, rfl, rfl⟩ | ⟨g', rfl, hb, _⟩
      · cases hk
      · have e : g' = k := by simpa [Value.ownBlock] using hk
        subst e
        exact ⟨rfl, hb⟩
    have hg : ∀ q, q < w.heap.size → (∀ k, ad = some ⟨k, 0, none⟩ → q ≠ k) → g ≠ q := fun q hq hne e => by
      rcases h4 with h4 | h4
      · exact hne g (hown g h4).1 e.symm
      · omega
    have hbel : Below B w w' := ⟨h3.os.trans hal.os, h3.tape.trans hal.tape, h3.output.trans hal.output, by have := h3.size; omega, fun k hk => by
      rw [h3.block k (by omega) (fun e => by have := (hown k e.symm).2; omega), hal.block k (by omega)]⟩
    have hkeep : ∀ {q c : Nat} {xs : List Int}, Own B w (some ⟨q, 0, none⟩) c xs → (∀ k, ad = some ⟨k, 0, none⟩ → q ≠ k) → Own B w' (some ⟨q, 0, none⟩) c xs := fun {q c xs} hO hne => by
      refine (hO.keep hal).kept h3 (.inr ?_)
      intro e
      have e2 : (Value.slice ad N gc).ownBlock = some q := e.symm
      exact hne q (hown q e2).1 rfl
    refine h ⟨w', g, gc', hbel, ?_, ?_, ?_, ?_, ?_, ?_⟩
    · rwa [show (List.range N).map (fun i => Value.slice (hd i) C (cp i)) ++ [.slice ar C cr] = (List.range (N + 1)).map (fun i => Value.slice (if i = N then ar else hd i) C (if i = N then cr else cp i)) from by
        rw [List.range_succ, List.map_append]
        congr 1
        · refine List.map_congr_left (fun i hi => ?_)
          have : i < N := by simpa using hi
          rw [if_neg (by omega), if_neg (by omega)]
        · simp] at h2
    · intro hC i hi
      by_cases e : i = N
      · subst e; simp only [if_true]; exact hR.hdr hC
      · simp only [if_neg e]; exact hM.hdr hC i (by omega)
    · intro hC i hi
      by_cases e : i = N
      · subst e; simp only [if_true]; exact hkeep (hR.row hC) (hnew hC).2
      · simp only [if_neg e]; exact hkeep (hM.row hC i (by omega)) (fun k hk => hM.ne hC i (by omega) k hk)
    · intro hC i hi g' hg'
      cases hg'
      by_cases e : i = N
      · subst e; simp only [if_true]; exact fun e2 => hg rr (hR.row hC).ltL.2 (hnew hC).2 e2.symm
      · simp only [if_neg e]; exact fun e2 => hg (r i) (hM.rlt hC (by omega)).2 (fun k hk => hM.ne hC i (by omega) k hk) e2.symm
    · intro hC i j hi hj e
      by_cases c1 : i = N <;> by_cases c2 : j = N
      · omega
      · simp only [if_pos c1, if_neg c2] at e
        exact absurd e.symm ((hnew hC).1 j (by omega))
      · simp only [if_neg c1, if_pos c2] at e
        exact absurd e ((hnew hC).1 i (by omega))
      · simp only [if_neg c1, if_neg c2] at e
        exact hM.inj hC i j (by omega) (by omega) e
    · intro i hi
      by_cases e : i = N
      · subst e; simp only [if_true]; exact hR.nil
      · simp only [if_neg e]; exact hM.nil i (by omega)

theorem wpList_pushM {B : Nat} {w : World} {ad : Option Addr} {gc N C : Nat} {hd : Nat → Option Addr} {r cp : Nat → Nat} {P : Nat → Nat → Int} (hM : Mtx B w ad gc N C hd r cp P) {ar : Option Addr} {rr cr : Nat} {Q : Nat → Int} (hR : RowO B w C ar rr cr Q) (hnew : 0 < C → (∀ i, i < N → r i ≠ rr) ∧ ∀ g, ad = some ⟨g, 0, none⟩ → rr ≠ g) (hB : B ≤ w.heap.size)
    {ops : Array Oper} {rest : List Oper} {o : Oper} {a : Act} {Q' : Exit → Act → World → Prop} (hgd : o.guard = none) (s x : Operand)
    (ho : o.op = .call { callee := .builtin .append, args := #[s, x], argTypes := #[22, 22] })
    (hs : a.eval s = .slice ad N gc) (hx : a.eval x = .slice (some ⟨w.heap.size, 0, none⟩) 1 1)
    (hlen : N + 1 ≤ 4294967296)
    (h : ∀ p : PushM B w ad gc N C hd r cp P ar rr cr Q, wpList Try.prog ops Q' rest (a.put o.dst (.slice (some ⟨p.g, 0, none⟩) (N + 1) p.gc')) p.val) :
    wpList Try.prog ops Q' (o :: rest) a (w.alloc (.cells #[.slice ar C cr] 35)) := by
  obtain ⟨i0, hi, hz0, hz1, hz2⟩ := info_parts info_row
  refine wpList_append_lies _ hgd s x 22 ho B 35 i0 (.slice none 0 0) 1 24 Try.underlying22 hi hz0 hz1 hz2 rfl (by decide) _ N _ hs (World.ownsRow.alloc hM.top _) ⟨w.heap.size, 0, none⟩ 1 1 [.slice ar C cr] hx rfl ?_ ?_ (by decide) (by unfold maxLen; omega) (by omega) (by simp; omega) _ rfl ?_
  · intro j v hj
    have hj0 : j = 0 := by
      have := (List.getElem?_eq_some_iff.1 hj).1
      simp at this
      omega
    subst hj0
    have e : (⟨w.heap.size, 0, none⟩ : Addr).add 0 = ⟨w.heap.size, 0, none⟩ := by unfold Addr.add; split <;> simp_all
    rw [e]
    simp at hj
    subst hj
    exact cell_one_new w _ 35 0 _ rfl
  · intro v hv
    simp at hv
    subst hv
    rfl
  · intro g gc' w' h2 h3 h4 h5
    have hal : Below w.heap.size w (w.alloc (.cells #[.slice ar C cr] 35)) := (Below.refl _ _).alloc (Nat.le_refl _) _
    have hsz : (w.alloc (.cells #[.slice ar C cr] 35)).heap.size = w.heap.size + 1 := by simp
    have hgo : g = g := rfl
    have hown : ∀ k, (Value.slice ad N gc).ownBlock = some k → ad = some ⟨k, 0, none⟩ ∧ B ≤ k := fun k hk => by
      rcases hM.form with ⟨rfl, rfl, rfl⟩ | ⟨g', rfl, hb, _⟩
      · cases hk
      · have e : g' = k := by simpa [Value.ownBlock] using hk
        subst e
        exact ⟨rfl, hb⟩
    have hg : ∀ q, q < w.heap.size → (∀ k, ad = some ⟨k, 0, none⟩ → q ≠ k) → g ≠ q := fun q hq hne e => by
      rcases h4 with h4 | h4
      · exact hne g (hown g h4).1 e.symm
      · omega
    have hbel : Below B w w' := ⟨h3.os.trans hal.os, h3.tape.trans hal.tape, h3.output.trans hal.output, by have := h3.size; omega, fun k hk => by
      rw [h3.block k (by omega) (fun e => by have := (hown k e.symm).2; omega), hal.block k (by omega)]⟩
    have hkeep : ∀ {q c : Nat} {xs : List Int}, Own B w (some ⟨q, 0, none⟩) c xs → (∀ k, ad = some ⟨k, 0, none⟩ → q ≠ k) → Own B w' (some ⟨q, 0, none⟩) c xs := fun {q c xs} hO hne => by
      refine (hO.keep hal).kept h3 (.inr ?_)
      intro e
      have e2 : (Value.slice ad N gc).ownBlock = some q := e.symm
      exact hne q (hown q e2).1 rfl
    refine h ⟨w', g, gc', hbel, ?_, ?_, ?_, ?_, ?_, ?_⟩
    · rwa [show (List.range N).map (fun i => Value.slice (hd i) C (cp i)) ++ [.slice ar C cr] = (List.range (N + 1)).map (fun i => Value.slice (if i = N then ar else hd i) C (if i = N then cr else cp i)) from by
        rw [List.range_succ, List.map_append]
        congr 1
        · refine List.map_congr_left (fun i hi => ?_)
          have : i < N := by simpa using hi
          rw [if_neg (by omega), if_neg (by omega)]
        · simp] at h2
    · intro hC i hi
      by_cases e : i = N
      · subst e; simp only [if_true]; exact hR.hdr hC
      · simp only [if_neg e]; exact hM.hdr hC i (by omega)
    · intro hC i hi
      by_cases e : i = N
      · subst e; simp only [if_true]; exact hkeep (hR.row hC) (hnew hC).2
      · simp only [if_neg e]; exact hkeep (hM.row hC i (by omega)) (fun k hk => hM.ne hC i (by omega) k hk)
    · intro hC i hi g' hg'
      cases hg'
      by_cases e : i = N
      · subst e; simp only [if_true]; exact fun e2 => hg rr (hR.row hC).ltL.2 (hnew hC).2 e2.symm
      · simp only [if_neg e]; exact fun e2 => hg (r i) (hM.rlt hC (by omega)).2 (fun k hk => hM.ne hC i (by omega) k hk) e2.symm
    · intro hC i j hi hj e
      by_cases c1 : i = N <;> by_cases c2 : j = N
      · omega
      · simp only [if_pos c1, if_neg c2] at e
        exact absurd e.symm ((hnew hC).1 j (by omega))
      · simp only [if_neg c1, if_pos c2] at e
        exact absurd e ((hnew hC).1 i (by omega))
      · simp only [if_neg c1, if_neg c2] at e
        exact hM.inj hC i j (by omega) (by omega) e
    · intro i hi
      by_cases e : i = N
      · subst e; simp only [if_true]; exact hR.nil
      · simp only [if_neg e]; exact hM.nil i (by omega)

end Go.Proofs.Ytffnpokceomncaa
