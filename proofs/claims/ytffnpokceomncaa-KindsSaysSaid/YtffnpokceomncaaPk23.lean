
/-
  append of one number at a step of a region that draws its order.
  field.Determinant of what is no square; field.Times.
  field.Times.
-/
import Derived.Test.YtffnpokceomncaaPk02
import Derived.Deep.AppendLies
import Derived.Deep.RegionLaw
import Derived.Test.YtffnpokceomncaaPk22
namespace Go.Proofs.Ytffnpokceomncaa
open Go.RowKit
set_option linter.unusedVariables false

/-- append of one number at a step of a region that draws its order -/
theorem step_push {B : Nat} {W w : World} (hw : Below B W w) (hB : B ≤ w.heap.size) {ops : Array Oper} {o : Oper} {a : Act} {K : Act → World → Prop} {Q : Exit → Act → World → Prop} {E : Prop} (hgd : o.guard = none) (s x : Operand)
    (ho : o.op = .call { callee := .builtin .append, args := #[s, x], argTypes := #[35, 35] })
    (xs : List Int) (ad : Option Addr) (cap : Nat) (y : Int) (hs : a.eval s = .slice ad xs.length cap) (hown : Own B w ad cap xs)
    (hx : a.eval x = .slice (some ⟨w.heap.size, 0, none⟩) 1 1)
    (hlen : xs.length + 1 ≤ 1099511627776)
    (h : ∀ (u' : Later B W) (ad' : Option Addr) (cap' : Nat), Own B u'.val ad' cap' (xs ++ [y]) → K (a.put o.dst (.slice ad' (xs ++ [y]).length cap')) u'.val) :
    if Region.wanted o (yielded ops a.tmps) = true then Oper.wp Try.prog o a (w.alloc (.cells #[.int .i64 y] 3)) K Q else E := by
  obtain ⟨i0, hi, hz0, hz1, hz2⟩ := info_parts info_int
  refine step_append_lies _ hgd s x 35 ho B 3 i0 (.int .i64 0) 1 8 Try.underlying35 hi hz0 hz1 hz2 rfl (by decide) _ xs.length _ hs (hown.alloc _) ⟨w.heap.size, 0, none⟩ 1 1 [.int .i64 y] hx rfl ?_ ?_ (by decide) (by unfold maxLen; omega) (by omega) (by simp; omega) _ rfl ?_
  · intro j v hj
    have hj0 : j = 0 := by
      have := (List.getElem?_eq_some_iff.1 hj).1
      simp at this
      omega
    subst hj0
    have e : (⟨w.heap.size, 0, none⟩ : Addr).add 0 = ⟨w.heap.size, 0, none⟩ := by unfold Addr.add; split <;> simp_all
    rw [e]
    simp at hj
    subst hj
    exact cell_one_new w (.int .i64 y) 3 0 _ rfl
  · intro v hv
    simp at hv
    subst hv
    rfl
  · intro g cap' w' h2 h3 _ _
    have hO : Own B w' (some ⟨g, 0, none⟩) cap' (xs ++ [y]) := by
      show w'.ownsRow B 3 1 (.slice (some ⟨g, 0, none⟩) (xs ++ [y]).length cap') (xs ++ [y]).length _
      rw [List.length_append]
      simpa using h2
    have := h ⟨w', own_below (hw.alloc hB _) (by simp; omega) (hown.alloc _) h3, by have := h3.size; simp at this; omega⟩ (some ⟨g, 0, none⟩) cap' hO
    rw [List.length_append] at this
    exact this

end Go.Proofs.Ytffnpokceomncaa

namespace Go.Proofs.Ytffnpokceomncaa
open Go.RowKit
set_option linter.unusedVariables false

set_option maxRecDepth 100000 in
set_option maxHeartbeats 8000000 in
theorem c_fieldDet_no {B : Nat} {W : World} (u : Later B W) (p c : Int) (rows : Lls) (a : Option Addr) (cap : Nat) (h : RowsI B W a rows) (hlen : rows.length ≤ 17592186044416) (hrl : ∀ i, i < rows.length → (rows.getD i []).length ≤ 17592186044416) (e : Int)
    (he : (¬ isMatrix p c rows ∧ e = 1) ∨ (isMatrix p c rows ∧ (rows.length : Int) ≠ c ∧ e = 3)) :
    Calls Try.prog 6 #[.agg #[.int .i64 p, .int .i64 c, .slice a rows.length cap]] u.val (Ret B W (.tuple #[.int .i64 0, .int .i64 e])) := by
  have T0 : Hid (RowL (u.val.alloc (.cells #[.int .i64 p, .int .i64 c, .slice a rows.length cap] 24)) u.val.heap.size 24 [.int .i64 p, .int .i64 c, .slice a rows.length cap]) := Lib.hid (RowL.new _ _ _)
  have HV : Hid (∀ v : Later (u.val.alloc (.cells #[.int .i64 p, .int .i64 c, .slice a rows.length cap] 24)).heap.size (u.val.alloc (.cells #[.int .i64 p, .int .i64 c, .slice a rows.length cap] 24)), ∃ w : Later B W, w.val = v.val) := Lib.hid (fun v => ⟨(u.alloc _).up v, rfl⟩)
  have KC := Lib.hid (c_checkMatrix (Later.self (u.val.alloc (.cells #[.int .i64 p, .int .i64 c, .slice a rows.length cap] 24))) p c rows a cap (h.to (u.alloc _)) hlen hrl)
  dsimp only [Later.self] at KC
  have HE := Lib.hid he
  clear h hrl he
  rcases HE.out with ⟨hn, rfl⟩ | ⟨hm, hne, rfl⟩
  · rw [decide_eq_false hn] at KC
    have KC2 : Hid (Calls Try.prog 32 #[.agg #[.int .i64 p, .int .i64 c, .slice a rows.length cap]] (u.val.alloc (.cells #[.int .i64 p, .int .i64 c, .slice a rows.length cap] 24)) (Ret (u.val.alloc (.cells #[.int .i64 p, .int .i64 c, .slice a rows.length cap] 24)).heap.size (u.val.alloc (.cells #[.int .i64 p, .int .i64 c, .slice a rows.length cap] 24)) (.int .i64 1))) := KC
    clear KC hn HE
    go_enter Try.func6, Try.ntmps6
    go_upto_region 1 with fail
    generalize (u.val.alloc (.cells #[.int .i64 p, .int .i64 c, .slice a rows.length cap] 24)) = X1 at *
    generalize u.val.heap.size = g0 at *
    have q0 : X1.cell? ⟨g0, 0, none⟩ = some (.int .i64 p) := T0.out.cell rfl
    have q1 : X1.cell? ⟨g0, 1, none⟩ = some (.int .i64 c) := T0.out.cell rfl
    have q2 : X1.cell? ⟨g0, 2, none⟩ = some (.slice a rows.length cap) := T0.out.cell rfl
    go_wp2_with (first | (go_at_call 32; (with_reducible refine (KC2.out).mono ?_); rintro e _ ⟨rfl, v1, rfl⟩) | fail)
    go_ret2
    obtain ⟨w, hw⟩ := HV.out v1
    exact Ret.of ⟨w, hw⟩ rfl
  · rw [decide_eq_true hm] at KC
    have KC2 : Hid (Calls Try.prog 32 #[.agg #[.int .i64 p, .int .i64 c, .slice a rows.length cap]] (u.val.alloc (.cells #[.int .i64 p, .int .i64 c, .slice a rows.length cap] 24)) (Ret (u.val.alloc (.cells #[.int .i64 p, .int .i64 c, .slice a rows.length cap] 24)).heap.size (u.val.alloc (.cells #[.int .i64 p, .int .i64 c, .slice a rows.length cap] 24)) (.int .i64 0))) := KC
    have f1 : ((rows.length : Int) != c) = true := by rw [bne_iff_ne]; exact hne
    clear KC hm HE
    go_enter Try.func6, Try.ntmps6
    go_upto_region 1 with fail
    generalize (u.val.alloc (.cells #[.int .i64 p, .int .i64 c, .slice a rows.length cap] 24)) = X1 at *
    generalize u.val.heap.size = g0 at *
    have q0 : ∀ w : Later X1.heap.size X1, w.val.cell? ⟨g0, 0, none⟩ = some (.int .i64 p) := fun w => (T0.out.keep w.below).cell rfl
    have q1 : ∀ w : Later X1.heap.size X1, w.val.cell? ⟨g0, 1, none⟩ = some (.int .i64 c) := fun w => (T0.out.keep w.below).cell rfl
    have q2 : ∀ w : Later X1.heap.size X1, w.val.cell? ⟨g0, 2, none⟩ = some (.slice a rows.length cap) := fun w => (T0.out.keep w.below).cell rfl
    have q0x := q0 (Later.self X1)
    have q1x := q1 (Later.self X1)
    have q2x := q2 (Later.self X1)
    dsimp only [Later.self] at q0x q1x q2x
    go_wp2_with (first | (go_at_call 32; (with_reducible refine (KC2.out).mono ?_); rintro e _ ⟨rfl, v1, rfl⟩; have q1a := q1 v1; have q2a := q2 v1) | fail)
    go_ret2
    obtain ⟨w, hw⟩ := HV.out v1
    exact Ret.of ⟨w, hw⟩ rfl

/-- what Times adds up -/
def prT (X Y : Nat → Nat → Int) (i j k : Nat) : Int := isum (fun l => X i l * Y l j) k
theorem prT_step (p : Nat) (X Y : Nat → Nat → Int) (i j k : Nat) : (prT X Y i j k % (p : Int) + X i k * Y k j) % (p : Int) = prT X Y i j (k + 1) % (p : Int) := by
  unfold prT
  simp only [isum]
  exact ((Cg.mod (p := p) _).add (Cg.refl _))

end Go.Proofs.Ytffnpokceomncaa

namespace Go.Proofs.Ytffnpokceomncaa
open Go.RowKit
set_option linter.unusedVariables false

/-- a row under way: the places ahead of j have one term more -/
def prW (p : Nat) (X Y : Nat → Nat → Int) (i q j : Nat) (x : Nat) : Int := if x < j then prT X Y i x (q + 1) % (p : Int) else prT X Y i x q % (p : Int)
/-- a result: a matrix and an error -/
def MatM (B : Nat) (p c : Int) (N C : Nat) (P : Nat → Nat → Int) (e : Int) (v : Value) (w : World) : Prop := ∃ ad gc hd r cp, v = .tuple #[.agg #[.int .i64 p, .int .i64 c, .slice ad N gc], .int .i64 e] ∧ Mtx B w ad gc N C hd r cp P
theorem later_in {B b : Nat} {W X : World} (hV : ∀ w : World, Below b X w → ∃ x : Later B W, x.val = w) {w : World} (h : Below b X w) {g i : Nat} (hg : b ≤ g) (x : Value) : ∃ y : Later B W, y.val = w.setCell ⟨g, i, none⟩ x := hV _ (h.trans (below_set hg x))

theorem ownsRow_at {B : Nat} {w w' : World} {e : TypeId} {n : Nat} {v : Value} {m : Nat} {xs : List Value} (h : w.ownsRow B e n v m xs) (hb : ∀ k, v.ownBlock = some k → w'.heap[k]? = w.heap[k]?) : w'.ownsRow B e n v m xs := by
  obtain ⟨h1, h2⟩ := h
  refine ⟨h1, ?_⟩
  rcases h2 with h2 | ⟨g, c, cur, rfl, hB, hh, r⟩
  · exact .inl h2
  · exact .inr ⟨g, c, cur, rfl, hB, by rw [hb g rfl]; exact hh, r⟩
theorem Mtx.keep_at {B D : Nat} {w w' : World} {ad : Option Addr} {gc N C : Nat} {hd : Nat → Option Addr} {r cp : Nat → Nat} {P : Nat → Nat → Int} (h : Mtx B w ad gc N C hd r cp P) (hb : Below D w w') (ht : ∀ g, ad = some ⟨g, 0, none⟩ → g < D) (hr : ∀ i, i < N → 0 < C → r i < D) : Mtx B w' ad gc N C hd r cp P :=
  ⟨ownsRow_at h.top (fun k hk => hb.block k (by
    rcases h.form with ⟨rfl, _⟩ | ⟨g, rfl, _⟩
    · cases hk
    · have e : g = k := by simpa [Value.ownBlock] using hk
      subst e
      exact ht g rfl)), h.hdr, fun hC i hi => ownsRow_at (h.row hC i hi) (fun k hk => hb.block k (by
    have e : r i = k := by simpa [Value.ownBlock] using hk
    subst e
    exact hr i hi hC)), h.ne, h.inj, h.nil⟩
theorem own_of_tab {B : Nat} {w : World} {g n : Nat} {A : Nat → Int} (h : ITab w g n A) (hB : B ≤ g) (hn : n ≤ 1048576) : Own B w (some ⟨g, 0, none⟩) n (tabL n A) := by
  obtain ⟨c, hh, hc, hf⟩ := h
  show w.ownsRow B 3 1 (.slice (some ⟨g, 0, none⟩) (tabL n A).length n) (tabL n A).length _
  rw [tabL_len]
  refine ⟨by simp [tabL], .inr ⟨g, n, c, rfl, hB, hh, Nat.le_refl _, by unfold maxLen; omega, by omega, ?_⟩⟩
  apply List.ext_getElem
  · simp [tabL, hc]
  · intro k h1 h2
    simp [tabL] at h2
    have := hf k h2
    simp [tabL]
    have h3 := (Array.getElem?_eq_some_iff.1 this)
    exact h3.2
set_option maxRecDepth 100000 in
set_option maxHeartbeats 16000000 in
theorem c_times {B : Nat} {W : World} (u : Later B W) (px cx py cy : Int) (rx ry : Lls) (ax ay : Option Addr) (capx capy : Nat) (hx : RowsI B W ax rx) (hy : RowsI B W ay ry)
    (hlx : rx.length ≤ 17592186044416) (hrx : ∀ i, i < rx.length → (rx.getD i []).length ≤ 17592186044416) (hly : ry.length ≤ 17592186044416) (hry : ∀ i, i < ry.length → (ry.getD i []).length ≤ 17592186044416)
    (p' c' : Int) (N' C' : Nat) (P : Nat → Nat → Int) (e : Int)
    (he : (¬ (isMatrix px cx rx ∧ isMatrix py cy ry) ∧ e = 1) ∨ ((isMatrix px cx rx ∧ isMatrix py cy ry) ∧ ¬ (px = py ∧ cx = ry.length) ∧ e = 3) ∨ ((isMatrix px cx rx ∧ isMatrix py cy ry) ∧ (px = py ∧ cx = ry.length) ∧ e = 0))
    (hz : e ≠ 0 → p' = 0 ∧ c' = 0 ∧ N' = 0) (hok : e = 0 → p' = px ∧ c' = cy ∧ N' = rx.length ∧ (C' : Int) = cy ∧ P = fun i j => prT (ent rx) (ent ry) i j ry.length % px) :
    Calls Try.prog 7 #[.agg #[.int .i64 px, .int .i64 cx, .slice ax rx.length capx], .agg #[.int .i64 py, .int .i64 cy, .slice ay ry.length capy]] u.val (RetP B W (MatM B p' c' N' C' P e)) := by
  have hB := u.size
  have k1 : (u.val.alloc (.cells #[.int .i64 px, .int .i64 cx, .slice ax rx.length capx] 24)).heap.size = u.val.heap.size + 1 := by simp
  have k2 : ((u.val.alloc (.cells #[.int .i64 px, .int .i64 cx, .slice ax rx.length capx] 24)).alloc (.cells #[.int .i64 py, .int .i64 cy, .slice ay ry.length capy] 24)).heap.size = u.val.heap.size + 1 + 1 := by simp
  have TX : Hid (RowL (((u.val.alloc (.cells #[.int .i64 px, .int .i64 cx, .slice ax rx.length capx] 24)).alloc (.cells #[.int .i64 py, .int .i64 cy, .slice ay ry.length capy] 24)).alloc (.cells #[.int .i64 0, .int .i64 0, .slice none 0 0] 24)) u.val.heap.size 24 [.int .i64 px, .int .i64 cx, .slice ax rx.length capx]) := Lib.hid (((RowL.new u.val 24 _).keep ((Below.refl _ _).alloc (Nat.le_refl _) _)).keep ((Below.refl _ _).alloc (Nat.le_refl _) _))
  have TY : Hid (RowL (((u.val.alloc (.cells #[.int .i64 px, .int .i64 cx, .slice ax rx.length capx] 24)).alloc (.cells #[.int .i64 py, .int .i64 cy, .slice ay ry.length capy] 24)).alloc (.cells #[.int .i64 0, .int .i64 0, .slice none 0 0] 24)) (u.val.heap.size + 1) 24 [.int .i64 py, .int .i64 cy, .slice ay ry.length capy]) := Lib.hid (by
    have h := (RowL.new (u.val.alloc (.cells #[.int .i64 px, .int .i64 cx, .slice ax rx.length capx] 24)) 24 [.int .i64 py, .int .i64 cy, .slice ay ry.length capy]).keep ((Below.refl _ _).alloc (Nat.le_refl _) (.cells #[.int .i64 0, .int .i64 0, .slice none 0 0] 24))
    rwa [k1] at h)
  have TZ : Hid (RowL (((u.val.alloc (.cells #[.int .i64 px, .int .i64 cx, .slice ax rx.length capx] 24)).alloc (.cells #[.int .i64 py, .int .i64 cy, .slice ay ry.length capy] 24)).alloc (.cells #[.int .i64 0, .int .i64 0, .slice none 0 0] 24)) (u.val.heap.size + 1 + 1) 24 [.int .i64 0, .int .i64 0, .slice none 0 0]) := Lib.hid (by
    have h := RowL.new ((u.val.alloc (.cells #[.int .i64 px, .int .i64 cx, .slice ax rx.length capx] 24)).alloc (.cells #[.int .i64 py, .int .i64 cy, .slice ay ry.length capy] 24)) 24 [.int .i64 0, .int .i64 0, .slice none 0 0]
    rwa [k2] at h)
  have HZ : Hid ((((u.val.alloc (.cells #[.int .i64 px, .int .i64 cx, .slice ax rx.length capx] 24)).alloc (.cells #[.int .i64 py, .int .i64 cy, .slice ay ry.length capy] 24)).alloc (.cells #[.int .i64 0, .int .i64 0, .slice none 0 0] 24)).heap.size = u.val.heap.size + 1 + 1 + 1) := Lib.hid (by simp)
  have HV : Hid (∀ w : World, Below (u.val.heap.size + 1 + 1) (((u.val.alloc (.cells #[.int .i64 px, .int .i64 cx, .slice ax rx.length capx] 24)).alloc (.cells #[.int .i64 py, .int .i64 cy, .slice ay ry.length capy] 24)).alloc (.cells #[.int .i64 0, .int .i64 0, .slice none 0 0] 24)) w → ∃ x : Later B W, x.val = w) := Lib.hid (fun w hb => ⟨⟨w, (((u.alloc _).alloc _).alloc _).below.trans (hb.mono (by omega)), by have := hb.size; simp at this; omega⟩, rfl⟩)
  have HX : Hid (RowsI B (((u.val.alloc (.cells #[.int .i64 px, .int .i64 cx, .slice ax rx.length capx] 24)).alloc (.cells #[.int .i64 py, .int .i64 cy, .slice ay ry.length capy] 24)).alloc (.cells #[.int .i64 0, .int .i64 0, .slice none 0 0] 24)) ax rx) := Lib.hid (hx.later (((u.alloc _).alloc _).alloc _).below)
  have HY : Hid (RowsI B (((u.val.alloc (.cells #[.int .i64 px, .int .i64 cx, .slice ax rx.length capx] 24)).alloc (.cells #[.int .i64 py, .int .i64 cy, .slice ay ry.length capy] 24)).alloc (.cells #[.int .i64 0, .int .i64 0, .slice none 0 0] 24)) ay ry) := Lib.hid (hy.later (((u.alloc _).alloc _).alloc _).below)
  have HXs : Hid (RowsI (((u.val.alloc (.cells #[.int .i64 px, .int .i64 cx, .slice ax rx.length capx] 24)).alloc (.cells #[.int .i64 py, .int .i64 cy, .slice ay ry.length capy] 24)).alloc (.cells #[.int .i64 0, .int .i64 0, .slice none 0 0] 24)).heap.size (((u.val.alloc (.cells #[.int .i64 px, .int .i64 cx, .slice ax rx.length capx] 24)).alloc (.cells #[.int .i64 py, .int .i64 cy, .slice ay ry.length capy] 24)).alloc (.cells #[.int .i64 0, .int .i64 0, .slice none 0 0] 24)) ax rx) := Lib.hid (hx.to (((u.alloc _).alloc _).alloc _))
  have HYs : Hid (RowsI (((u.val.alloc (.cells #[.int .i64 px, .int .i64 cx, .slice ax rx.length capx] 24)).alloc (.cells #[.int .i64 py, .int .i64 cy, .slice ay ry.length capy] 24)).alloc (.cells #[.int .i64 0, .int .i64 0, .slice none 0 0] 24)).heap.size (((u.val.alloc (.cells #[.int .i64 px, .int .i64 cx, .slice ax rx.length capx] 24)).alloc (.cells #[.int .i64 py, .int .i64 cy, .slice ay ry.length capy] 24)).alloc (.cells #[.int .i64 0, .int .i64 0, .slice none 0 0] 24)) ay ry) := Lib.hid (hy.to (((u.alloc _).alloc _).alloc _))
  have HE := Lib.hid he
  have HNo := Lib.hid hz
  have HOk := Lib.hid hok
  have HRx := Lib.hid hrx
  have HRy := Lib.hid hry
  clear hx hy k1 k2 he hz hok hrx hry
  go_enter Try.func7, Try.ntmps7
  go_upto_region 1 with fail
  generalize (((u.val.alloc (.cells #[.int .i64 px, .int .i64 cx, .slice ax rx.length capx] 24)).alloc (.cells #[.int .i64 py, .int .i64 cy, .slice ay ry.length capy] 24)).alloc (.cells #[.int .i64 0, .int .i64 0, .slice none 0 0] 24)) = Y at *
  generalize u.val.heap.size = g0 at *
  clear u
  have x0 : ∀ v : Later Y.heap.size Y, v.val.cell? ⟨g0, 0, none⟩ = some (.int .i64 px) := fun v => (TX.out.keep v.below).cell rfl
  have x1 : ∀ v : Later Y.heap.size Y, v.val.cell? ⟨g0, 1, none⟩ = some (.int .i64 cx) := fun v => (TX.out.keep v.below).cell rfl
  have x2 : ∀ v : Later Y.heap.size Y, v.val.cell? ⟨g0, 2, none⟩ = some (.slice ax rx.length capx) := fun v => (TX.out.keep v.below).cell rfl
  have y0 : ∀ v : Later Y.heap.size Y, v.val.cell? ⟨g0 + 1, 0, none⟩ = some (.int .i64 py) := fun v => (TY.out.keep v.below).cell rfl
  have y1 : ∀ v : Later Y.heap.size Y, v.val.cell? ⟨g0 + 1, 1, none⟩ = some (.int .i64 cy) := fun v => (TY.out.keep v.below).cell rfl
  have y2 : ∀ v : Later Y.heap.size Y, v.val.cell? ⟨g0 + 1, 2, none⟩ = some (.slice ay ry.length capy) := fun v => (TY.out.keep v.below).cell rfl
  obtain ⟨z, hz⟩ : ∃ z : Later Y.heap.size Y, z.val = Y := ⟨Later.self _, rfl⟩
  have KX : Hid (∀ w : Later Y.heap.size Y, Calls Try.prog 32 #[.agg #[.int .i64 px, .int .i64 cx, .slice ax rx.length capx]] w.val (Ret Y.heap.size Y (.int .i64 (errno (decide (isMatrix px cx rx)) 1)))) := Lib.hid (fun w => c_checkMatrix w px cx rx ax capx HXs.out hlx HRx.out)
  have KY : Hid (∀ w : Later Y.heap.size Y, Calls Try.prog 32 #[.agg #[.int .i64 py, .int .i64 cy, .slice ay ry.length capy]] w.val (Ret Y.heap.size Y (.int .i64 (errno (decide (isMatrix py cy ry)) 1)))) := Lib.hid (fun w => c_checkMatrix w py cy ry ay capy HYs.out hly HRy.out)
  rw [← hz]
  clear hz
  go_cut [6, 7] from 15 to 18 (fun x_ y_ w_ => x_ = .int .i64 (errno (decide (isMatrix px cx rx)) 1) ∧ y_ = .int .i64 (errno (decide (isMatrix py cy ry)) 1) ∧ ∃ v : Later Y.heap.size Y, w_ = v.val)
  case first => as_aux_lemma =>
    have d0 := x0 z.drew
    have d1 := x1 z.drew
    have d2 := x2 z.drew
    have f0 := y0 z.drew
    have f1 := y1 z.drew
    have f2 := y2 z.drew
    have KX0 : Calls Try.prog 32 #[.agg #[.int .i64 px, .int .i64 cx, .slice ax rx.length capx]] z.val.drew (Ret Y.heap.size Y (.int .i64 (errno (decide (isMatrix px cx rx)) 1))) := KX.out z.drew
    have KY0 : Calls Try.prog 32 #[.agg #[.int .i64 py, .int .i64 cy, .slice ay ry.length capy]] z.val.drew (Ret Y.heap.size Y (.int .i64 (errno (decide (isMatrix py cy ry)) 1))) := KY.out z.drew
    have KXh := Lib.hid KX0
    have KYh := Lib.hid KY0
    dsimp only [Later.drew, Later.to] at d0 d1 d2 f0 f1 f2
    clear KX0 KY0 HE HNo HOk HRx HRy HX HY HXs HYs HV HZ TX TY TZ
    generalize errno (decide (isMatrix px cx rx)) 1 = ex at *
    generalize errno (decide (isMatrix py cy ry)) 1 = ey at *
    go_region_law (first | (go_simp; go_at_call 32; (with_reducible refine (KXh.out).mono ?_); rintro e _ ⟨rfl, v1, rfl⟩) | (go_simp; go_at_call 32; (with_reducible refine (KYh.out).mono ?_); rintro e _ ⟨rfl, v1, rfl⟩) | (go_simp; go_at_call 32; (with_reducible refine (KX.out v1).mono ?_); rintro e _ ⟨rfl, v2, rfl⟩) | (go_simp; go_at_call 32; (with_reducible refine (KY.out v1).mono ?_); rintro e _ ⟨rfl, v2, rfl⟩))
    all_goals
      go_wp2
      go_meet
      case rel => exact ⟨rfl, rfl, v2, rfl⟩
  case rest => as_aux_lemma =>
    obtain ⟨rfl, rfl, v, rfl⟩ := hcut
    clear KX KY z
    -- the end, whichever way
    have hfin : ∀ (w : World) (pp cc : Int) (nn : Nat) (ad : Option Addr) (gc : Nat) (hd : Nat → Option Addr) (r cp : Nat → Nat) (ee : Int) (tm : Array Value), RowL w (g0 + 1 + 1) 24 [.int .i64 0, .int .i64 0, .slice none 0 0] → Below (g0 + 1 + 1) Y w → Mtx (g0 + 1 + 1 + 1) w ad gc N' C' hd r cp P → tm.getD 4 undef = .pointer (some ⟨g0 + 1 + 1, 0, none⟩) → tm.getD 5 undef = .int .i64 ee → pp = p' → cc = c' → nn = N' → ee = e → bodyPost Try.prog Try.f7 (RetP B W (MatM B p' c' N' C' P e)) .ret { tmps := tm, defers := [] } (((w.setCell ⟨g0 + 1 + 1, 0, none⟩ (.int .i64 pp)).setCell ⟨g0 + 1 + 1, 1, none⟩ (.int .i64 cc)).setCell ⟨g0 + 1 + 1, 2, none⟩ (.slice ad nn gc)) := fun w pp cc nn ad gc hd r cp ee tm hR hb hM h4 h5 e1 e2 e3 e4 => by
      subst e1 e2 e3 e4
      refine bodyPost_ret (results_row (vs := [.int .i64 pp, .int .i64 cc, .slice ad nn gc]) rfl _ _ (g0 + 1 + 1) h4 (((hR.set 0 _).set 1 _).set 2 _) Try.underlying24 (by kernel_rfl)) rfl ?_
      obtain ⟨x, hx⟩ := HV.out _ (((hb.trans (below_set (Nat.le_refl _) (.int .i64 pp))).trans (below_set (Nat.le_refl _) (.int .i64 cc))).trans (below_set (i := 2) (Nat.le_refl _) (.slice ad nn gc)))
      exact RetP.of ⟨x, hx⟩ ⟨ad, gc, hd, r, cp, by rw [h5], (((hM.old (by omega) _).old (by omega) _).old (by omega) _).mono (by omega)⟩
    have HF := Lib.hid hfin
    clear hfin
    have HTv : Hid (RowL v.val (g0 + 1 + 1) 24 [.int .i64 0, .int .i64 0, .slice none 0 0]) := Lib.hid (TZ.out.keep v.below)
    have Z0 : v.val.frozen? ⟨g0 + 1 + 1, 0, none⟩ = false := HTv.out.fz 0
    have Z1 : ∀ x : Value, (v.val.setCell ⟨g0 + 1 + 1, 0, none⟩ x).frozen? ⟨g0 + 1 + 1, 1, none⟩ = false := fun x => (HTv.out.set 0 x).fz 1
    have Z2 : ∀ x y : Value, ((v.val.setCell ⟨g0 + 1 + 1, 0, none⟩ x).setCell ⟨g0 + 1 + 1, 1, none⟩ y).frozen? ⟨g0 + 1 + 1, 2, none⟩ = false := fun x y => ((HTv.out.set 0 x).set 1 y).fz 2
    have G0 : v.val.cell? ⟨g0 + 1 + 1, 0, none⟩ = some (.int .i64 0) := HTv.out.cell rfl
    have G1 : ∀ x : Value, (v.val.setCell ⟨g0 + 1 + 1, 0, none⟩ x).cell? ⟨g0 + 1 + 1, 1, none⟩ = some (.int .i64 0) := fun x => (HTv.out.set 0 x).cell rfl
    have G2 : ∀ x y : Value, ((v.val.setCell ⟨g0 + 1 + 1, 0, none⟩ x).setCell ⟨g0 + 1 + 1, 1, none⟩ y).cell? ⟨g0 + 1 + 1, 2, none⟩ = some (.slice none 0 0) := fun x y => ((HTv.out.set 0 x).set 1 y).cell rfl
    have HBv : Hid (Below (g0 + 1 + 1) Y v.val) := Lib.hid (v.below.mono (by have := HZ.out; omega))
    have HSv : Hid (g0 + 1 + 1 + 1 ≤ v.val.heap.size) := Lib.hid (by have := v.size; have := HZ.out; omega)
    have HNil : Hid (e ≠ 0 → Mtx (g0 + 1 + 1 + 1) v.val none 0 N' C' (fun _ => none) (fun _ => 0) (fun _ => 0) P ∧ (0 : Int) = p' ∧ (0 : Int) = c' ∧ 0 = N') := Lib.hid (fun h => by
      obtain ⟨h1, h2, h3⟩ := HNo.out h
      rw [h3]
      exact ⟨Mtx.start _ _ _ _ _ _ _, h1.symm, h2.symm, rfl⟩)
    have x0v := x0 v
    have x1v := x1 v
    have x2v := x2 v
    have y0v := y0 v
    have y1v := y1 v
    have y2v := y2 v
    by_cases hmx : isMatrix px cx rx
    case neg =>
      have he1 : e = 1 := by
        rcases HE.out with ⟨_, h⟩ | ⟨h, _⟩ | ⟨h, _⟩
        · exact h
        · exact absurd h.1 hmx
        · exact absurd h.1 hmx
      obtain ⟨h1, h2, h3, h4⟩ := HNil.out (by omega)
      have HM := Lib.hid h1
      rw [decide_eq_false hmx]
      have HE1 := Lib.hid he1
      have H2 := Lib.hid h2
      have H3 := Lib.hid h3
      have H4 := Lib.hid h4
      clear h1 h2 h3 h4 hmx he1 HE HNo HOk HRx HRy HX HY HXs HYs HNil
      go_wp2
      refine HF.out v.val 0 0 0 none 0 _ _ _ 1 _ HTv.out HBv.out HM.out ?_ ?_ H2.out H3.out H4.out HE1.out.symm <;> rfl
    by_cases hmy : isMatrix py cy ry
    case neg =>
      have he1 : e = 1 := by
        rcases HE.out with ⟨_, h⟩ | ⟨h, _⟩ | ⟨h, _⟩
        · exact h
        · exact absurd h.2 hmy
        · exact absurd h.2 hmy
      obtain ⟨h1, h2, h3, h4⟩ := HNil.out (by omega)
      have HM := Lib.hid h1
      rw [decide_eq_true hmx, decide_eq_false hmy]
      have HE1 := Lib.hid he1
      have H2 := Lib.hid h2
      have H3 := Lib.hid h3
      have H4 := Lib.hid h4
      clear h1 h2 h3 h4 hmx hmy he1 HE HNo HOk HRx HRy HX HY HXs HYs HNil
      go_wp2
      refine HF.out v.val 0 0 0 none 0 _ _ _ 1 _ HTv.out HBv.out HM.out ?_ ?_ H2.out H3.out H4.out HE1.out.symm <;> rfl
    rw [decide_eq_true hmx, decide_eq_true hmy, show errno true 1 = 0 from rfl]
    by_cases hs : px = py ∧ cx = ry.length
    case neg =>
      have he1 : e = 3 := by
        rcases HE.out with ⟨h, _⟩ | ⟨_, _, h⟩ | ⟨_, h, _⟩
        · exact absurd ⟨hmx, hmy⟩ h
        · exact h
        · exact absurd h hs
      obtain ⟨h1, h2, h3, h4⟩ := HNil.out (by omega)
      have HM := Lib.hid h1
      have HE1 := Lib.hid he1
      have H2 := Lib.hid h2
      have H3 := Lib.hid h3
      have H4 := Lib.hid h4
      clear h1 h2 h3 h4 hmx hmy he1 HE HNo HOk HRx HRy HX HY HXs HYs HNil
      rcases ieq px py with ⟨g1, d1, _⟩ | ⟨g1, d1, _⟩
      · have g2 : cx ≠ ry.length := fun h => hs ⟨g1, h⟩
        have f1 : (px != py) = false := by rw [bne_eq_false_iff_eq]; exact g1
        have f2 : (cx != (ry.length : Int)) = true := by rw [bne_iff_ne]; exact g2
        clear hs
        go_wp2
        refine HF.out v.val 0 0 0 none 0 _ _ _ 3 _ HTv.out HBv.out HM.out ?_ ?_ H2.out H3.out H4.out HE1.out.symm <;> rfl
      · have f1 : (px != py) = true := by rw [bne_iff_ne]; exact g1
        clear hs
        go_wp2
        refine HF.out v.val 0 0 0 none 0 _ _ _ 3 _ HTv.out HBv.out HM.out ?_ ?_ H2.out H3.out H4.out HE1.out.symm <;> rfl
    have he0 : e = 0 := by
      rcases HE.out with ⟨h, _⟩ | ⟨_, h, _⟩ | ⟨_, _, h⟩
      · exact absurd ⟨hmx, hmy⟩ h
      · exact absurd hs h
      · exact h
    obtain ⟨ep, ec, eN, eC, eP⟩ := HOk.out he0
    obtain ⟨p, hpp, hp⟩ := PrimeP.of hmx.1
    have hp7 := hp.le
    obtain ⟨hpe, hce⟩ := hs
    have hpy : py = (p : Int) := by omega
    subst hpp
    subst hpy
    subst hce
    clear hpe
    have hN6 : rx.length ≤ 6 := hmx.2.2.1
    have hK6 : ry.length ≤ 6 := hmy.2.2.1
    have hC8 : C' ≤ 8 := by have := hmy.2.1.2; omega
    have hrX : ∀ i, i < rx.length → (rx.getD i []).length = ry.length := fun i hi => by have := (hmx.2.2.2 i hi).1; omega
    have hrY : ∀ i, i < ry.length → (ry.getD i []).length = C' := fun i hi => by have := (hmy.2.2.2 i hi).1; omega
    have hsX : Small p rx.length ry.length (ent rx) := fun i j hi hj => by
      have := (hmx.2.2.2 i hi).2 j (by rw [hrX i hi]; exact hj)
      omega
    have hsY : Small p ry.length C' (ent ry) := fun i j hi hj => by
      have := (hmy.2.2.2 i hi).2 j (by rw [hrY i hi]; exact hj)
      omega
    have HSX := Lib.hid hsX
    have HSY := Lib.hid hsY
    have HrX := Lib.hid hrX
    have HrY := Lib.hid hrY
    have HE0 := Lib.hid he0
    have HEp := Lib.hid ep
    have HEc := Lib.hid ec
    have HEN := Lib.hid eN
    have HEP : Hid (P = fun i j => prT (ent rx) (ent ry) i j ry.length % (p : Int)) := Lib.hid eP
    have hcy : cy = (C' : Int) := eC.symm
    subst hcy
    clear HE HNo HOk HNil hmx hmy hsX hsY hrX hrY he0 ep ec eN eP eC HRx HRy HX HY hlx hly
    have HB0 : Hid (RowL (v.val.alloc (.cells #[.int .i64 p, .int .i64 C', .slice none 0 0] 24)) v.val.heap.size 24 [.int .i64 p, .int .i64 C', .slice none 0 0]) := Lib.hid (RowL.new _ _ _)
    have HYO : Hid ((v.val.alloc (.cells #[.int .i64 p, .int .i64 C', .slice none 0 0] 24)).heap.size = v.val.heap.size + 1) := Lib.hid (by simp)
    have HL : Hid (∀ w : World, Below v.val.heap.size (v.val.alloc (.cells #[.int .i64 p, .int .i64 C', .slice none 0 0] 24)) w → ∃ u : Later Y.heap.size Y, u.val = w) := Lib.hid (fun w hb => by
      have h1 : Below v.val.heap.size v.val w := ((Below.refl _ _).alloc (Nat.le_refl _) _).trans hb
      exact ⟨v.to w (h1.mono v.size), rfl⟩)
    have HTw : Hid (∀ w : World, Below v.val.heap.size (v.val.alloc (.cells #[.int .i64 p, .int .i64 C', .slice none 0 0] 24)) w → RowL w (g0 + 1 + 1) 24 [.int .i64 0, .int .i64 0, .slice none 0 0] ∧ Below (g0 + 1 + 1) Y w) := Lib.hid (fun w hb => by
      have h1 : Below v.val.heap.size v.val w := ((Below.refl _ _).alloc (Nat.le_refl _) _).trans hb
      exact ⟨HTv.out.keep h1, HBv.out.trans (h1.mono (by have := HSv.out; omega))⟩)
    go_upto_region 9 with fail
    clear x0v x1v x2v y0v y1v y2v Z0 Z1 Z2 G0 G1 G2 HTv HBv
    obtain ⟨go, hgo⟩ : ∃ go, go = v.val.heap.size := ⟨_, rfl⟩
    have hgo3 : g0 + 1 + 1 + 1 ≤ go := by have := HSv.out; omega
    generalize hYe : (v.val.alloc (.cells #[.int .i64 p, .int .i64 C', .slice none 0 0] 24)) = YO at *
    clear hYe
    rw [← hgo] at HB0 HYO HL HTw ⊢
    clear hgo HSv v
    have x2' : ∀ w : World, Below go YO w → w.cell? ⟨g0, 2, none⟩ = some (.slice ax rx.length capx) := fun w hb => by
      obtain ⟨u, rfl⟩ := HL.out w hb; exact x2 u
    have x0' : ∀ w : World, Below go YO w → w.cell? ⟨g0, 0, none⟩ = some (.int .i64 p) := fun w hb => by
      obtain ⟨u, rfl⟩ := HL.out w hb; exact x0 u
    have y1' : ∀ w : World, Below go YO w → w.cell? ⟨g0 + 1, 1, none⟩ = some (.int .i64 C') := fun w hb => by
      obtain ⟨u, rfl⟩ := HL.out w hb; exact y1 u
    have y2' : ∀ w : World, Below go YO w → w.cell? ⟨g0 + 1, 2, none⟩ = some (.slice ay ry.length capy) := fun w hb => by
      obtain ⟨u, rfl⟩ := HL.out w hb; exact y2 u
    clear x0 x1 x2 y0 y1 y2 TX TY TZ
    obtain ⟨z, hz⟩ : ∃ z : Later go YO, z.val = YO := ⟨⟨YO, Below.refl _ _, by rw [HYO.out]; omega⟩, rfl⟩
    have x2z := x2' z.val z.below
    rw [← hz] at HB0 ⊢
    have HS0 : Hid (go + 1 ≤ z.val.heap.size) := Lib.hid (by rw [hz, HYO.out]; omega)
    clear hz
    go_wp2
    clear x2z
    go_loopw [52] (fun i wr => ∃ (k : Nat) (v : Later go YO) (ad : Option Addr) (gc : Nat) (hd : Nat → Option Addr) (r cp : Nat → Nat), k ≤ rx.length ∧ i = .int .i64 k ∧ wr = v.val ∧ Hid (go + 1 ≤ v.val.heap.size) ∧ Hid (RowL v.val go 24 [.int .i64 p, .int .i64 C', .slice ad k gc]) ∧ Hid (Mtx (go + 1) v.val ad gc k C' hd r cp (fun i j => prT (ent rx) (ent ry) i j ry.length % (p : Int)))) (fun i _ => rx.length - (intOf i).toNat)
    case atStart => exact ⟨0, z, none, 0, fun _ => none, fun _ => 0, fun _ => 0, by omega, rfl, rfl, HS0, HB0, Lib.hid (Mtx.start _ _ _ _ _ _ _)⟩
    case round =>
      clear HB0 HS0 z
      obtain ⟨k, v, ad, gc, hd, r, cp, hk, rfl, rfl, HS, HB, HM⟩ := hrel
      by_cases hlt : k < rx.length
      · obtain ⟨be, ofe, rfl, hbe, adr, cpr, hI, hn, hcell⟩ := HXs.out.atN hlt
        have hrk := HrX.out k hlt
        have hcv : v.val.cell? ⟨be, ofe + k, none⟩ = some (.slice adr (rx.getD k []).length cpr) := by
          obtain ⟨u, hu⟩ := HL.out v.val v.below
          rw [← hu]; exact hcell u
        have HIr := Lib.hid hI
        have HEr : Hid (∀ q, ent rx k q = (rx.getD k []).getD q 0) := Lib.hid (fun _ => rfl)
        have y1v := y1' v.val v.below
        have mk := mk_tab C' (by omega)
        clear hI hcell hn
        generalize hrow : rx.getD k [] = row at *
        clear hrow
        have HT0 : Hid (ITab (v.val.alloc (.cells (madeCells #[.int .i64 0] C') 3)) v.val.heap.size C' (fun j => prT (ent rx) (ent ry) k j 0 % (p : Int))) := Lib.hid ((ITab.made _ _).congr (fun j hj => by unfold prT; simp [isum]))
        have HM2 : Hid (Mtx (go + 1) (v.val.alloc (.cells (madeCells #[.int .i64 0] C') 3)) ad gc k C' hd r cp (fun i j => prT (ent rx) (ent ry) i j ry.length % (p : Int))) := Lib.hid (HM.out.keep ((Below.refl _ _).alloc (Nat.le_refl _) _))
        have HB2 : Hid (RowL (v.val.alloc (.cells (madeCells #[.int .i64 0] C') 3)) go 24 [.int .i64 p, .int .i64 C', .slice ad k gc]) := Lib.hid (HB.out.keep ((Below.refl _ _).alloc (Nat.le_refl _) _))
        have HbW : Hid (Below go YO (v.val.alloc (.cells (madeCells #[.int .i64 0] C') 3))) := Lib.hid (v.below.trans ((Below.refl _ _).alloc v.size _))
        have HW2 : Hid ((v.val.alloc (.cells (madeCells #[.int .i64 0] C') 3)).heap.size = v.val.heap.size + 1) := Lib.hid (by simp)
        have HMlt : Hid (∀ i, i < k → 0 < C' → r i < v.val.heap.size) := Lib.hid (fun i hi hC => (HM.out.rlt hC hi).2)
        have HAlt : Hid (∀ g, ad = some ⟨g, 0, none⟩ → g < v.val.heap.size) := Lib.hid (fun g hg => by
          rcases HM.out.form with ⟨e1, _⟩ | ⟨g', e1, _, e3⟩
          · rw [hg] at e1; cases e1
          · rw [hg] at e1; cases e1; exact e3)
        go_upto_region 13 with fail
        clear hcv y1v mk
        obtain ⟨rl, hrl⟩ : ∃ rl, rl = v.val.heap.size := ⟨_, rfl⟩
        have hrl1 : go + 1 ≤ rl := by have := HS.out; omega
        generalize hWe : (v.val.alloc (.cells (madeCells #[.int .i64 0] C') 3)) = W2 at *
        clear hWe
        rw [← hrl] at HT0 HW2 HMlt HAlt ⊢
        clear hrl HM HB HS v
        obtain ⟨z, hz⟩ : ∃ z : Later rl W2, z.val = W2 := ⟨⟨W2, Below.refl _ _, by rw [HW2.out]; omega⟩, rfl⟩
        rw [← hz] at HT0 ⊢
        have HSz : Hid (rl < z.val.heap.size) := Lib.hid (by rw [hz, HW2.out]; omega)
        clear hz
        have HbL : Hid (∀ w : World, Below rl W2 w → Below go YO w) := Lib.hid (fun w hb => HbW.out.trans (hb.mono (by omega)))
        go_wp2
        go_loopw [61] (fun i wr => ∃ (q : Nat) (v : Later rl W2), q ≤ ry.length ∧ i = .int .i64 q ∧ wr = v.val ∧ Hid (rl < v.val.heap.size) ∧ Hid (ITab v.val rl C' (fun j => prT (ent rx) (ent ry) k j q % (p : Int)))) (fun i _ => ry.length - (intOf i).toNat)
        case atStart => exact ⟨0, z, by omega, rfl, rfl, HSz, HT0⟩
        case round =>
          clear HT0 HSz z
          obtain ⟨q, v, hq, rfl, rfl, HS, HT⟩ := hrel
          by_cases hlq : q < ry.length
          · obtain ⟨br, ofr, rfl, hbr, hcr⟩ := HIr.out.at (show q < row.length by omega)
            have cn : v.val.cell? ⟨br, ofr + q, none⟩ = some (.int .i64 (row.getD q 0)) := by
              obtain ⟨u, hu⟩ := HL.out v.val (HbL.out _ v.below)
              rw [← hu]; exact hcr u q (by omega)
            have hn : row.getD q 0 = ent rx k q := (HEr.out q).symm
            rw [hn] at cn
            have hsx := HSX.out k q hlt hlq
            obtain ⟨be2, ofe2, rfl, hbe2, ad2, cp2, hI2, _, hcell2⟩ := HYs.out.atN hlq
            have hrq := HrY.out q hlq
            have HI2 := Lib.hid hI2
            have HC2 := Lib.hid hcell2
            have HEy : Hid (∀ j, ent ry q j = (ry.getD q []).getD j 0) := Lib.hid (fun _ => rfl)
            have HSt : Hid (∀ j, (prT (ent rx) (ent ry) k j q % (p : Int) + ent rx k q * ent ry q j) % (p : Int) = prT (ent rx) (ent ry) k j (q + 1) % (p : Int)) := Lib.hid (fun j => prT_step p _ _ k j q)
            clear hI2 hcell2 hcr hn
            generalize hrow2 : ry.getD q [] = rowq at *
            clear hrow2
            generalize ent rx k q = nq at *
            go_wp2
            clear cn
            go_loopw [68] (fun i wr => ∃ (j : Nat) (v : Later rl W2), j ≤ C' ∧ i = .int .i64 j ∧ wr = v.val ∧ Hid (rl < v.val.heap.size) ∧ Hid (ITab v.val rl C' (prW p (ent rx) (ent ry) k q j))) (fun i _ => C' - (intOf i).toNat)
            case atStart => exact ⟨0, v, by omega, rfl, rfl, HS, Lib.hid (HT.out.congr (fun j hj => by unfold prW; rw [if_neg (by omega)]))⟩
            case round =>
              clear HT HS v
              obtain ⟨j, v, hj, rfl, rfl, HS, HT⟩ := hrel
              by_cases hlj : j < C'
              · obtain ⟨bq, ofq, rfl, hbq, hcq⟩ := HI2.out.at (show j < rowq.length by omega)
                have hvs : rl ≤ v.val.heap.size := by have := HS.out; omega
                have HbV : Hid (∀ w : Later v.val.heap.size v.val, Below go YO w.val) := Lib.hid (fun w => HbL.out _ (v.below.trans (w.below.mono hvs)))
                have a1 : ∀ w : Later v.val.heap.size v.val, w.val.cell? ⟨rl, j, none⟩ = some (.int .i64 (prT (ent rx) (ent ry) k j q % (p : Int))) := fun w => by
                  have := (HT.out.keep w.below).cell hlj
                  rwa [show prW p (ent rx) (ent ry) k q j j = prT (ent rx) (ent ry) k j q % (p : Int) by unfold prW; rw [if_neg (by omega)]] at this
                have a2 : ∀ w : Later v.val.heap.size v.val, w.val.frozen? ⟨rl, j, none⟩ = false := fun w => (HT.out.keep w.below).frozen j
                have a3 : ∀ w : Later v.val.heap.size v.val, w.val.cell? ⟨g0 + 1, 2, none⟩ = some (.slice (some ⟨be2, ofe2, none⟩) ry.length capy) := fun w => y2' _ (HbV.out w)
                have a4 : ∀ w : Later v.val.heap.size v.val, w.val.cell? ⟨g0, 0, none⟩ = some (.int .i64 p) := fun w => x0' _ (HbV.out w)
                have a5 : ∀ w : Later v.val.heap.size v.val, w.val.cell? ⟨be2, ofe2 + q, none⟩ = some (.slice (some ⟨bq, ofq, none⟩) rowq.length cp2) := fun w => by
                  obtain ⟨u, hu⟩ := HL.out _ (HbV.out w)
                  rw [← hu]; exact HC2.out u
                have a6 : ∀ w : Later v.val.heap.size v.val, w.val.cell? ⟨bq, ofq + j, none⟩ = some (.int .i64 (ent ry q j)) := fun w => by
                  obtain ⟨u, hu⟩ := HL.out _ (HbV.out w)
                  rw [← hu, HEy.out j]; exact hcq u j (by omega)
                have hsy := HSY.out q j hlq hlj
                have hst := HSt.out j
                have HPn : Hid (∀ w : Later v.val.heap.size v.val, ITab (w.val.setCell ⟨rl, j, none⟩ (.int .i64 (prT (ent rx) (ent ry) k j (q + 1) % (p : Int)))) rl C' (prW p (ent rx) (ent ry) k q (j + 1))) := Lib.hid (fun w => (HT.out.keep w.below).set j _ (fun x hx => by
                  unfold prW
                  by_cases c : x = j
                  · subst c; rw [if_pos (by omega), if_pos rfl]
                  · rw [if_neg c]
                    by_cases d : x < j
                    · rw [if_pos d, if_pos (by omega)]
                    · rw [if_neg d, if_neg (by omega)]))
                have hac := mod_small p (by omega) (prT (ent rx) (ent ry) k j q)
                generalize ent ry q j = yq at *
                generalize prT (ent rx) (ent ry) k j q % (p : Int) = ac at *
                generalize prT (ent rx) (ent ry) k j (q + 1) % (p : Int) = an at *
                have ms := mul_small (a := nq) (b := yq) (by omega) (by omega)
                have w1 := IntWalk.i64_in (nq * yq) (by omega)
                have w2 := IntWalk.i64_in (ac + nq * yq) (by omega)
                have tm : Int.tmod (ac + nq * yq) (p : Int) = an := by rw [← hst]; exact Int.tmod_eq_emod_of_nonneg (by omega)
                have hp0 : (p : Int) ≠ 0 := by omega
                have hpn : p ≠ 0 := by omega
                have HVx : Hid (∀ w : Later v.val.heap.size v.val, ∃ x : Later rl W2, x.val = w.val.setCell ⟨rl, j, none⟩ (.int .i64 an) ∧ rl < x.val.heap.size) := Lib.hid (fun w => ⟨(v.to w.val (w.below.mono hvs)).set ⟨rl, j, none⟩ (Nat.le_refl _) _, rfl, by have := w.size; have := HS.out; show rl < (w.val.setCell ⟨rl, j, none⟩ (.int .i64 an)).heap.size; simp; omega⟩)
                obtain ⟨z, hz⟩ : ∃ z : Later v.val.heap.size v.val, z.val = v.val := ⟨Later.self _, rfl⟩
                rw [← hz]
                clear hz hst ms hcq
                go_wp2
                refine wp_region_later_tail z 21 (by kernel_rfl) (by kernel_rfl) (fun z2 => ?_)
                simp only [List.take_succ_cons, List.take_zero, List.drop_succ_cons, List.drop_zero]
                repeat still_step
                refine wpStill_nil ?_
                go_wp2
                obtain ⟨xx, hxx, hxs⟩ := HVx.out z2
                go_roundw
                case rel => exact ⟨j + 1, xx, by omega, by go_num, hxx.symm, Lib.hid hxs, by rw [hxx]; exact Lib.hid (HPn.out z2)⟩
                case measure => simp [intOf]; omega
              · have hje : j = C' := by omega
                subst hje
                have HTn : Hid (ITab v.val rl j (fun x => prT (ent rx) (ent ry) k x (q + 1) % (p : Int))) := Lib.hid (HT.out.congr (fun x hx => by unfold prW; rw [if_pos hx]))
                go_wp2
                go_roundw
                case rel => exact ⟨q + 1, v, by omega, by go_num, by trivial, HS, HTn⟩
                case measure => simp [intOf]; omega
          · have hqe : q = ry.length := by omega
            subst hqe
            have hvs : rl ≤ v.val.heap.size := by have := HS.out; omega
            have HMv : Hid (Mtx (go + 1) v.val ad gc k C' hd r cp (fun i j => prT (ent rx) (ent ry) i j ry.length % (p : Int))) := Lib.hid (HM2.out.keep_at v.below HAlt.out HMlt.out)
            have HBv : Hid (RowL v.val go 24 [.int .i64 p, .int .i64 C', .slice ad k gc]) := Lib.hid (HB2.out.keep_at v.below (by omega))
            have HRO : Hid (RowO (go + 1) v.val C' (some ⟨rl, 0, none⟩) rl C' (fun j => prT (ent rx) (ent ry) k j ry.length % (p : Int))) := Lib.hid ⟨fun _ => rfl, fun _ => own_of_tab HT.out hrl1 (by omega), fun h => by cases h⟩
            have hRN : 0 < C' → (∀ i, i < k → r i ≠ rl) ∧ ∀ g, ad = some ⟨g, 0, none⟩ → rl ≠ g := fun hC => ⟨fun i hi e => by have := HMlt.out i hi hC; omega, fun g hg e => by have := HAlt.out g hg; omega⟩
            have HBp : Hid (∀ (pp : PushM (go + 1) v.val ad gc k C' hd r cp (fun i j => prT (ent rx) (ent ry) i j ry.length % (p : Int)) (some ⟨rl, 0, none⟩) rl C' (fun j => prT (ent rx) (ent ry) k j ry.length % (p : Int))), RowL pp.val go 24 [.int .i64 p, .int .i64 C', .slice ad k gc]) := Lib.hid (fun pp => HBv.out.keep_at pp.below (by omega))
            have c2 : v.val.cell? ⟨go, 2, none⟩ = some (.slice ad k gc) := HBv.out.cell rfl
            have c3 : ∀ (pp : PushM (go + 1) v.val ad gc k C' hd r cp (fun i j => prT (ent rx) (ent ry) i j ry.length % (p : Int)) (some ⟨rl, 0, none⟩) rl C' (fun j => prT (ent rx) (ent ry) k j ry.length % (p : Int))), pp.val.cell? ⟨go, 2, none⟩ = some (.slice ad k gc) := fun pp => (HBp.out pp).cell rfl
            have c4 : ∀ (pp : PushM (go + 1) v.val ad gc k C' hd r cp (fun i j => prT (ent rx) (ent ry) i j ry.length % (p : Int)) (some ⟨rl, 0, none⟩) rl C' (fun j => prT (ent rx) (ent ry) k j ry.length % (p : Int))), pp.val.frozen? ⟨go, 2, none⟩ = false := fun pp => (HBp.out pp).fz 2
            have hk1 : k + 1 ≤ 4294967296 := by omega
            have hBv : go + 1 ≤ v.val.heap.size := by omega
            have HMO := HMv
            go_wp2_with (first | (at_builtin; refine wpList_pushM (B := go + 1) (w := v.val) HMO.out HRO.out hRN hBv (by rfl) _ _ (by rfl) (by rfl) (by rfl) hk1 ?_; intro pp) | fail)
            have HMp : Hid (Mtx (go + 1) (pp.val.setCell ⟨go, 2, none⟩ (.slice (some ⟨pp.g, 0, none⟩) (k + 1) pp.gc')) (some ⟨pp.g, 0, none⟩) pp.gc' (k + 1) C' (fun i => if i = k then some ⟨rl, 0, none⟩ else hd i) (fun i => if i = k then rl else r i) (fun i => if i = k then C' else cp i) (fun i j => prT (ent rx) (ent ry) i j ry.length % (p : Int))) := Lib.hid ((pp.out.old (by omega) _).congr (fun i j hi hj => by
              by_cases e : i = k
              · subst e; rw [if_pos rfl]
              · rw [if_neg e]))
            have HBn : Hid (RowL (pp.val.setCell ⟨go, 2, none⟩ (.slice (some ⟨pp.g, 0, none⟩) (k + 1) pp.gc')) go 24 [.int .i64 p, .int .i64 C', .slice (some ⟨pp.g, 0, none⟩) ((k + 1 : Nat)) pp.gc']) := Lib.hid ((HBp.out pp).set 2 _)
            obtain ⟨x, hx⟩ : ∃ x : Later go YO, x.val = pp.val.setCell ⟨go, 2, none⟩ (.slice (some ⟨pp.g, 0, none⟩) (k + 1) pp.gc') := ⟨⟨_, (HbL.out _ v.below).trans ((pp.below.mono (by omega)).trans (below_set (Nat.le_refl _) _)), by have := pp.below.size; simp; omega⟩, rfl⟩
            have HSn : Hid (go + 1 ≤ x.val.heap.size) := Lib.hid (by rw [hx]; have := pp.below.size; simp; omega)
            rw [← hx] at HMp HBn
            go_roundw
            case rel => exact ⟨k + 1, x, _, _, _, _, _, by omega, by go_num, hx.symm, HSn, HBn, HMp⟩
            case measure => simp [intOf]; omega
      · have hke : k = rx.length := by omega
        subst hke
        have F0 : v.val.cell? ⟨go, 0, none⟩ = some (.int .i64 p) := HB.out.cell rfl
        have F1 : v.val.cell? ⟨go, 1, none⟩ = some (.int .i64 C') := HB.out.cell rfl
        have F2 : v.val.cell? ⟨go, 2, none⟩ = some (.slice ad rx.length gc) := HB.out.cell rfl
        obtain ⟨hT1, hbY⟩ := HTw.out v.val v.below
        have HT1 := Lib.hid hT1
        have HbY := Lib.hid hbY
        have Z0 : v.val.frozen? ⟨g0 + 1 + 1, 0, none⟩ = false := HT1.out.fz 0
        have Z1 : ∀ x : Value, (v.val.setCell ⟨g0 + 1 + 1, 0, none⟩ x).frozen? ⟨g0 + 1 + 1, 1, none⟩ = false := fun x => (HT1.out.set 0 x).fz 1
        have Z2 : ∀ x y : Value, ((v.val.setCell ⟨g0 + 1 + 1, 0, none⟩ x).setCell ⟨g0 + 1 + 1, 1, none⟩ y).frozen? ⟨g0 + 1 + 1, 2, none⟩ = false := fun x y => ((HT1.out.set 0 x).set 1 y).fz 2
        have G0 : v.val.cell? ⟨g0 + 1 + 1, 0, none⟩ = some (.int .i64 0) := HT1.out.cell rfl
        have G1 : ∀ x : Value, (v.val.setCell ⟨g0 + 1 + 1, 0, none⟩ x).cell? ⟨g0 + 1 + 1, 1, none⟩ = some (.int .i64 0) := fun x => (HT1.out.set 0 x).cell rfl
        have G2 : ∀ x y : Value, ((v.val.setCell ⟨g0 + 1 + 1, 0, none⟩ x).setCell ⟨g0 + 1 + 1, 1, none⟩ y).cell? ⟨g0 + 1 + 1, 2, none⟩ = some (.slice none 0 0) := fun x y => ((HT1.out.set 0 x).set 1 y).cell rfl
        have HMf : Hid (Mtx (g0 + 1 + 1 + 1) v.val ad gc N' C' hd r cp P) := Lib.hid (by rw [HEN.out, HEP.out]; exact HM.out.mono (by omega))
        clear hT1 hbY HM
        go_wp2
        refine HF.out v.val p C' rx.length ad gc hd r cp 0 _ HT1.out HbY.out HMf.out ?_ ?_ HEp.out.symm HEc.out.symm HEN.out.symm HE0.out.symm <;> rfl

end Go.Proofs.Ytffnpokceomncaa
