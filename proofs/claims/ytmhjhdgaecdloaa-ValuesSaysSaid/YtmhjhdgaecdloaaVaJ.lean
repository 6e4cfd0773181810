
/-
  A row of pairs that the call owns; append of one pair.
-/
import Derived.Test.YtmhjhdgaecdloaaVaG
namespace Go.Proofs.Ytmhjhdgaecdloaa
open Go.RowKit
set_option linter.unusedVariables false

theorem info_value : (Try.prog.info? 36).map (fun i => (i.zero, i.size, i.bytes)) = some (some (.agg #[.int .i64 0, .int .i64 0]), 2, 16) := by kernel_rfl

/-- the cells of pairs -/
def prs (xs : List (Int × Int)) : List Value := xs.flatMap (fun p => [.int .i64 p.1, .int .i64 p.2])
theorem prs_len (xs : List (Int × Int)) : (prs xs).length = xs.length * 2 := by
  induction xs with
  | nil => rfl
  | cons p xs ih =>
    have : prs (p :: xs) = .int .i64 p.1 :: .int .i64 p.2 :: prs xs := rfl
    rw [this]
    simp only [List.length_cons, ih]
    omega
theorem prs_append (xs ys : List (Int × Int)) : prs (xs ++ ys) = prs xs ++ prs ys := by simp [prs]
theorem prs_at : ∀ (xs : List (Int × Int)) (k : Nat), k < xs.length → (prs xs)[k * 2]? = some (.int .i64 (xs.getD k (0, 0)).1) ∧ (prs xs)[k * 2 + 1]? = some (.int .i64 (xs.getD k (0, 0)).2)
  | [], k, h => by simp at h
  | p :: xs, 0, _ => ⟨rfl, rfl⟩
  | p :: xs, k + 1, h => by
    have e : prs (p :: xs) = .int .i64 p.1 :: .int .i64 p.2 :: prs xs := rfl
    have := prs_at xs k (by simpa using h)
    rw [e, show (k + 1) * 2 = k * 2 + 1 + 1 by omega]
    simp only [List.getElem?_cons_succ, List.getD_cons_succ]
    exact this
/-- a row of pairs that the call owns -/
def OwnE (B : Nat) (w : World) (ad : Option Addr) (cap : Nat) (xs : List (Int × Int)) : Prop := w.ownsRow B 36 2 (.slice ad xs.length cap) xs.length (prs xs)
theorem OwnE.nil (B : Nat) (w : World) : OwnE B w none 0 [] := World.ownsRow_nil w B 36 2
theorem OwnE.reads {B : Nat} {w : World} {ad : Option Addr} {cap : Nat} {xs : List (Int × Int)} (h : OwnE B w ad cap xs) : EdgesAt w.heap.size w ad xs := by
  intro hne
  have hlt := World.ownsRow.lt h
  have hcells := fun g hg => World.ownsRow.cells h (g := g) hg
  rcases h.2 with ⟨e, hn⟩ | ⟨g, cap', cur, e, hb, _⟩
  · exact absurd (List.length_eq_zero_iff.1 hn) hne
  · simp only [Value.slice.injEq] at e
    obtain ⟨rfl, _, _⟩ := e
    refine ⟨g, 0, rfl, (hlt g rfl).2, fun k hk => ?_⟩
    obtain ⟨h1, h2⟩ := prs_at xs k hk
    have a1 := hcells g rfl _ _ h1
    have a2 := hcells g rfl _ _ h2
    have e1 : (⟨g, 0, none⟩ : Addr).add (k * 2) = ⟨g, 0 + k * 2, none⟩ := by unfold Addr.add; split <;> simp_all
    have e2 : (⟨g, 0, none⟩ : Addr).add (k * 2 + 1) = ⟨g, 0 + k * 2 + 1, none⟩ := by unfold Addr.add; split <;> simp_all [Nat.add_assoc]
    rw [e1] at a1
    rw [e2] at a2
    exact ⟨a1, a2⟩
theorem OwnE.alloc {B : Nat} {w : World} {ad : Option Addr} {cap : Nat} {xs : List (Int × Int)} (h : OwnE B w ad cap xs) (o : Obj) : OwnE B (w.alloc o) ad cap xs := World.ownsRow.alloc h o
theorem OwnE.keep {B : Nat} {w w' : World} {ad : Option Addr} {cap : Nat} {xs : List (Int × Int)} (h : OwnE B w ad cap xs) (hb : Below w.heap.size w w') : OwnE B w' ad cap xs :=
  World.ownsRow.kept (row := none) h ⟨hb.os, hb.tape, hb.output, hb.size, fun k hk _ => hb.block k hk⟩ (by cases (Value.slice ad xs.length cap).ownBlock <;> simp)
theorem own_belowE {B : Nat} {W w w' : World} {ad : Option Addr} {cap : Nat} {xs : List (Int × Int)} (u : Below B W w) (hB : B ≤ w.heap.size) (hown : OwnE B w ad cap xs) (hg : w.grownBy w' (Value.slice ad xs.length cap).ownBlock) : Below B W w' :=
  u.grown hg hB (fun k hk => (World.ownsRow.lt hown k hk).1)
theorem two_cells (w : World) (x y : Value) : ∀ j v, [x, y][j]? = some v → (w.alloc (.cells #[x, y] 36)).cell? ((⟨w.heap.size, 0, none⟩ : Addr).add j) = some v := by
  have T := Two.new w 36 x y
  intro j v hj
  have e : (⟨w.heap.size, 0, none⟩ : Addr).add j = ⟨w.heap.size, j, none⟩ := by unfold Addr.add; split <;> simp_all
  rw [e]
  match j, hj with
  | 0, hj => simp at hj; rw [← hj]; exact T.c0
  | 1, hj => simp at hj; rw [← hj]; exact T.c1
  | j + 2, hj => simp at hj

/-- append of one pair to a row of the call's own -/
theorem wpList_pushE {B : Nat} {W w : World} (hw : Below B W w) (hB : B ≤ w.heap.size) {ops : Array Oper} {rest : List Oper} {o : Oper} {a : Act} {Q : Exit → Act → World → Prop} (hgd : o.guard = none) (s x : Operand)
    (ho : o.op = .call { callee := .builtin .append, args := #[s, x], argTypes := #[22, 22] })
    (xs : List (Int × Int)) (ad : Option Addr) (cap : Nat) (y z : Int) (hs : a.eval s = .slice ad xs.length cap) (hown : OwnE B w ad cap xs)
    (hx : a.eval x = .slice (some ⟨w.heap.size, 0, none⟩) 1 1)
    (hlen : xs.length + 1 ≤ 1099511627776)
    (h : ∀ (u' : Later B W) (ad' : Option Addr) (cap' : Nat), OwnE B u'.val ad' cap' (xs ++ [(y, z)]) → wpList Try.prog ops Q rest (a.put o.dst (.slice ad' (xs ++ [(y, z)]).length cap')) u'.val) :
    wpList Try.prog ops Q (o :: rest) a (w.alloc (.cells #[.int .i64 y, .int .i64 z] 36)) := by
  obtain ⟨i0, hi, hz0, hz1, hz2⟩ := info_parts info_value
  refine wpList_append_lies _ hgd s x 22 ho B 36 i0 (.agg #[.int .i64 0, .int .i64 0]) 2 16 Try.underlying22 hi hz0 hz1 hz2 rfl (by decide) _ xs.length _ hs (hown.alloc _) ⟨w.heap.size, 0, none⟩ 1 1 [.int .i64 y, .int .i64 z] hx rfl (two_cells w _ _) ?_ (by decide) (by unfold maxLen; omega) (by omega) (by simp; omega) _ rfl ?_
  · intro v hv
    simp at hv
    rcases hv with rfl | rfl <;> rfl
  · intro g cap' w' h2 h3 _ _
    have hO : OwnE B w' (some ⟨g, 0, none⟩) cap' (xs ++ [(y, z)]) := by
      show w'.ownsRow B 36 2 (.slice (some ⟨g, 0, none⟩) (xs ++ [(y, z)]).length cap') (xs ++ [(y, z)]).length _
      rw [List.length_append, prs_append]
      exact h2
    have := h ⟨w', own_belowE (hw.alloc hB _) (by simp; omega) (hown.alloc _) h3, by have := h3.size; simp at this; omega⟩ (some ⟨g, 0, none⟩) cap' hO
    rw [List.length_append] at this
    exact this

/-- the same at a step of a region that draws its order -/
theorem step_pushE {B : Nat} {W w : World} (hw : Below B W w) (hB : B ≤ w.heap.size) {ops : Array Oper} {o : Oper} {a : Act} {K : Act → World → Prop} {Q : Exit → Act → World → Prop} {E : Prop} (hgd : o.guard = none) (s x : Operand)
    (ho : o.op = .call { callee := .builtin .append, args := #[s, x], argTypes := #[22, 22] })
    (xs : List (Int × Int)) (ad : Option Addr) (cap : Nat) (y z : Int) (hs : a.eval s = .slice ad xs.length cap) (hown : OwnE B w ad cap xs)
    (hx : a.eval x = .slice (some ⟨w.heap.size, 0, none⟩) 1 1)
    (hlen : xs.length + 1 ≤ 1099511627776)
    (h : ∀ (u' : Later B W) (ad' : Option Addr) (cap' : Nat), OwnE B u'.val ad' cap' (xs ++ [(y, z)]) → K (a.put o.dst (.slice ad' (xs ++ [(y, z)]).length cap')) u'.val) :
    if Region.wanted o (yielded ops a.tmps) = true then Oper.wp Try.prog o a (w.alloc (.cells #[.int .i64 y, .int .i64 z] 36)) K Q else E := by
  obtain ⟨i0, hi, hz0, hz1, hz2⟩ := info_parts info_value
  refine step_append_lies _ hgd s x 22 ho B 36 i0 (.agg #[.int .i64 0, .int .i64 0]) 2 16 Try.underlying22 hi hz0 hz1 hz2 rfl (by decide) _ xs.length _ hs (hown.alloc _) ⟨w.heap.size, 0, none⟩ 1 1 [.int .i64 y, .int .i64 z] hx rfl (two_cells w _ _) ?_ (by decide) (by unfold maxLen; omega) (by omega) (by simp; omega) _ rfl ?_
  · intro v hv
    simp at hv
    rcases hv with rfl | rfl <;> rfl
  · intro g cap' w' h2 h3 _ _
    have hO : OwnE B w' (some ⟨g, 0, none⟩) cap' (xs ++ [(y, z)]) := by
      show w'.ownsRow B 36 2 (.slice (some ⟨g, 0, none⟩) (xs ++ [(y, z)]).length cap') (xs ++ [(y, z)]).length _
      rw [List.length_append, prs_append]
      exact h2
    have := h ⟨w', own_belowE (hw.alloc hB _) (by simp; omega) (hown.alloc _) h3, by have := h3.size; simp at this; omega⟩ (some ⟨g, 0, none⟩) cap' hO
    rw [List.length_append] at this
    exact this

end Go.Proofs.Ytmhjhdgaecdloaa
