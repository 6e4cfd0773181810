/-
  The book of a game: a map keyed by three numbers, in which each position that is written down is written down rightly.
-/
import Derived.Test.YtcljgnmlpfddiaaGameCheck
import Derived.Test.YtcljgnmlpfddiaaLift
import Derived.Maps.OwnOps
import Derived.Maps.OwnSet
import Derived.WideKeyArr2
namespace Go.Proofs.Ytcljgnmlpfddiaa
open Go.RowKit Go.Maps
set_option linter.unusedVariables false

theorem arr3 : Go.WideMaps.ArrKey Try.prog 120 3 3 := ⟨Try.underlying120, by kernel_rfl, by kernel_rfl, by kernel_rfl⟩
theorem key3 : Keyed Try.prog 120 := Keyed.of_law arr3.law
theorem zeroInt (w : World) : (zeroValue 3).run Try.prog w = .ok (.int .i64 0) w := by kernel_rfl
theorem lits3 {a b c : Int} (wa : (Lit.int .i64 a).wf = true) (wb : (Lit.int .i64 b).wf = true) (wc : (Lit.int .i64 c).wf = true) :
    (Try.prog).keyLits (Try.prog.types.size + 1) 120 [.int .i64 a, .int .i64 b, .int .i64 c] = some [.int .i64 a, .int .i64 b, .int .i64 c] := by
  obtain ⟨m, hm⟩ : ∃ m, Try.prog.types.size = m + 1 := ⟨Try.prog.types.size - 1, by kernel_rfl⟩
  rw [hm]
  unfold Program.keyLits
  simp only [arr3.hu]
  rw [if_pos (by rw [arr3.size]; rfl), show List.range 3 = [0, 1, 2] from rfl, List.mapM_cons, List.mapM_cons, List.mapM_cons, List.mapM_nil]
  simp [arr3.one, Program.keyLits, Try.underlying3, wa, wb, wc]
theorem keyOf3 {a b c : Int} (wa : (Lit.int .i64 a).wf = true) (wb : (Lit.int .i64 b).wf = true) (wc : (Lit.int .i64 c).wf = true) :
    keyOf Try.prog 120 (.agg #[.int .i64 a, .int .i64 b, .int .i64 c]) = some (.string (keyBytes [.int .i64 a, .int .i64 b, .int .i64 c])) := by
  have hkt := arr3.keyType ⟨Try.prog.types.size - 1, by kernel_rfl⟩
  have hl := lits3 wa wb wc
  unfold keyOf
  simp only [arr3.hu]
  rw [if_pos (by simp [hkt, Value.formed, arr3.hu, arr3.size])]
  have : (Value.agg #[.int .i64 a, .int .i64 b, .int .i64 c]).cells.toList = [.int .i64 a, .int .i64 b, .int .i64 c] := rfl
  rw [this, hl]
  rfl
/-- the key of a position -/
def bk (a b c : Nat) : Lit := .string (keyBytes [.int .i64 (a : Int), .int .i64 (b : Int), .int .i64 (c : Int)])
theorem wf_small {a : Nat} (h : a < 1048576) : (Lit.int .i64 (a : Int)).wf = true := Go.WalkArith.wf_i64 (by omega)
theorem keyOf_bk {a b c : Nat} (ha : a < 1048576) (hb : b < 1048576) (hc : c < 1048576) : keyOf Try.prog 120 (.agg #[.int .i64 (a : Int), .int .i64 (b : Int), .int .i64 (c : Int)]) = some (bk a b c) := keyOf3 (wf_small ha) (wf_small hb) (wf_small hc)
theorem bk_inj {a b c a' b' c' : Nat} (ha : a < 1048576) (hb : b < 1048576) (hc : c < 1048576) (ha' : a' < 1048576) (hb' : b' < 1048576) (hc' : c' < 1048576) (h : bk a b c = bk a' b' c') : a = a' ∧ b = b' ∧ c = c' := by
  have e := Go.keyLits_inj (lits3 (wf_small ha) (wf_small hb) (wf_small hc)) (lits3 (wf_small ha') (wf_small hb') (wf_small hc')) (by simpa [bk] using h)
  simp only [List.cons.injEq, Lit.int.injEq, true_and, and_true] at e
  omega

/-- who wins, as a number -/
def winN (H : Nat → Bool) (m j c : Nat) (who : Bool) : Int := if win H m j c who = true then 1 else 2
/-- the book in block b: at most n stores have been made; what stands there is right -/
def Memo (H : Nat → Bool) (m : Nat) (w : World) (b n : Nat) : Prop := ∃ D : DataW Nat, w.ownsMap Try.prog 120 (plainElem Try.prog 3) b n D ∧ IsMap D ∧
  ∀ (j c q : Nat) (z : Int), j < 256 → c < 256 → q < 3 → D.atKey (bk j c q) (.lit (.int .i64 0)) = .lit (.int .i64 z) → z = 0 ∨ z = winN H m j c (decide (q = 1))
theorem Memo.lt {H : Nat → Bool} {m : Nat} {w : World} {b n : Nat} (h : Memo H m w b n) : b < w.heap.size := by
  obtain ⟨D, h, _⟩ := h
  exact h.lt
theorem Memo.mono {H : Nat → Bool} {m : Nat} {w : World} {b n n' : Nat} (h : Memo H m w b n) (hn : n ≤ n') : Memo H m w b n' := by
  obtain ⟨D, h1, h2, h3⟩ := h
  exact ⟨D, h1.mono hn, h2, h3⟩
theorem Memo.of_block {H : Nat → Bool} {m : Nat} {w w' : World} {b n : Nat} (h : Memo H m w b n) (hb : w'.heap[b]? = w.heap[b]?) : Memo H m w' b n := by
  obtain ⟨D, ⟨es, clock, h1, h2⟩, h3⟩ := h
  exact ⟨D, ⟨es, clock, by rw [hb]; exact h1, h2⟩, h3⟩
theorem Memo.keep {H : Nat → Bool} {m : Nat} {w w' : World} {b n : Nat} (h : Memo H m w b n) (hb : Below w.heap.size w w') : Memo H m w' b n := h.of_block (hb.block b h.lt)
theorem Memo.keep_at {H : Nat → Bool} {m : Nat} {w w' : World} {b n B : Nat} (h : Memo H m w b n) (hb : Below B w w') (hlt : b < B) : Memo H m w' b n := h.of_block (hb.block b hlt)
theorem Memo.set {H : Nat → Bool} {m : Nat} {w : World} {b n : Nat} (h : Memo H m w b n) (a : Addr) (x : Value) (hne : a.block ≠ b) : Memo H m (w.setCell a x) b n :=
  h.of_block (Below.heap_setCell _ _ _ _ (Ne.symm hne))
theorem Memo.new (H : Nat → Bool) (m : Nat) (w : World) : Memo H m (w.alloc (.map #[] 0)) w.heap.size 0 :=
  ⟨.map [], World.ownsMap_made _ _ _ _, isMap_empty, fun j c q z _ _ _ h => by
    left
    simp [DataW.atKey] at h
    exact h.symm⟩

/-- a look into the book -/
theorem wpList_memo {H : Nat → Bool} {m : Nat} (w : World) {ops : Array Oper} {rest : List Oper} {o : Oper} {a : Act} {Q : Exit → Act → World → Prop} (hg : o.guard = none) (mo x : Operand) (hop : o.op = Op.lookup 114 mo x false)
    (b n : Nat) (hm : a.eval mo = .map (some b)) (hmemo : Memo H m w b n) (j c q : Nat) (hj : j < 256) (hc : c < 256) (hq : q < 3) (hx : a.eval x = .agg #[.int .i64 (j : Int), .int .i64 (c : Int), .int .i64 (q : Int)])
    (hK : ∀ z : Int, (z = 0 ∨ z = winN H m j c (decide (q = 1))) → wpList Try.prog ops Q rest (a.put o.dst (.int .i64 z)) w) : wpList Try.prog ops Q (o :: rest) a w := by
  obtain ⟨D, h1, h2, h3⟩ := hmemo
  refine wpList_lookup_own_int w hg mo x 114 hop 120 3 .i64 key3 Try.underlying114 Try.underlying3 (zeroInt w) b n D hm h1 _ (bk j c q) hx (keyOf_bk (by omega) (by omega) (by omega)) ?_
  intro z hat _
  exact hK z (h3 j c q z hj hc hq hat)
/-- a position is written down -/
theorem wpList_memo_put {H : Nat → Bool} {m : Nat} (w : World) {ops : Array Oper} {rest : List Oper} {o : Oper} {a : Act} {Q : Exit → Act → World → Prop} (hg : o.guard = none) (mo x v : Operand) (hop : o.op = Op.mapUpdate 114 mo x v)
    (b n : Nat) (hm : a.eval mo = .map (some b)) (hmemo : Memo H m w b n) (hn : n < 1048576) (j c q : Nat) (hj : j < 256) (hc : c < 256) (hq : q < 3) (hx : a.eval x = .agg #[.int .i64 (j : Int), .int .i64 (c : Int), .int .i64 (q : Int)])
    (z : Int) (hv : a.eval v = .int .i64 z) (hz : z = winN H m j c (decide (q = 1)))
    (hK : ∀ w', Memo H m w' b (n + 1) → w.grownBy w' (some b) → wpList Try.prog ops Q rest (a.put o.dst undef) w') : wpList Try.prog ops Q (o :: rest) a w := by
  obtain ⟨D, h1, h2, h3⟩ := hmemo
  have hz12 : z = 1 ∨ z = 2 := by rw [hz]; unfold winN; split <;> simp
  refine wpList_mapUpdate_own w hg mo x v 114 hop 120 3 key3 Try.underlying114 _ b n D hm h1 (by unfold maxLen; omega) _ _ (bk j c q) hx hv (keyOf_bk (by omega) (by omega) (by omega)) (.lit (.int .i64 z)) [] (plainElem_int Try.underlying3 (Go.WalkArith.wf_i64 (by omega))) ?_
  intro w' r1 r2
  refine hK w' ⟨_, r1, h2.put _ _, fun j' c' q' z' hj' hc' hq' hat => ?_⟩ r2
  by_cases e : bk j' c' q' = bk j c q
  · obtain ⟨rfl, rfl, rfl⟩ := bk_inj (by omega) (by omega) (by omega) (by omega) (by omega) (by omega) e
    rw [atKey_put_same h2 (by trivial)] at hat
    simp only [DataW.lit.injEq, Lit.int.injEq, true_and] at hat
    right; rw [← hat]; exact hz
  · rw [atKey_put_other e] at hat
    exact h3 j' c' q' z' hj' hc' hq' hat

/-- worlds that differ from W in block b alone, as far as W's blocks go -/
structure Beside (b : Nat) (W : World) where
  val : World
  grown : W.grownBy val (some b)
namespace Beside
variable {b : Nat} {W : World}
def self (W : World) : Beside b W := ⟨W, ⟨rfl, rfl, rfl, Nat.le_refl _, fun _ _ _ => rfl⟩⟩
theorem size (x : Beside b W) : W.heap.size ≤ x.val.heap.size := x.grown.size
def later (x : Beside b W) (v : Later x.val.heap.size x.val) : Beside b W := ⟨v.val, World.grownBy.trans x.grown ⟨v.below.os, v.below.tape, v.below.output, v.below.size, fun k hk _ => v.below.block k hk⟩⟩
def up (x : Beside b W) (y : Beside b x.val) : Beside b W := ⟨y.val, World.grownBy.trans x.grown y.grown⟩
def of (x : Beside b W) (w : World) (h : x.val.grownBy w (some b)) : Beside b W := ⟨w, World.grownBy.trans x.grown h⟩
theorem cell (x : Beside b W) {a : Addr} (h : a.block < W.heap.size) (hne : a.block ≠ b) : x.val.cell? a = W.cell? a := World.cell?_of_block (x.grown.block _ h (fun e => hne (by simpa using e)))
end Beside

end Go.Proofs.Ytcljgnmlpfddiaa
