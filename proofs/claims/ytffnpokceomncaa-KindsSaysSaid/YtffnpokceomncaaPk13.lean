
/-
  axioms.exchange.
  axioms.Check.
  A region whose order is drawn, whose first n operations are quiet in a class of worlds, and whose tail has one order alone: one walk. Nothing of the program is proved here.
-/
import Derived.Test.YtffnpokceomncaaPk04
import Derived.Test.YtffnpokceomncaaPk12
import Derived.Test.YtffnpokceomncaaPk06
import Derived.Deep.CutRange
import Derived.Deep.CutBlock
import Derived.Test.YtffnpokceomncaaPk01
import Derived.Deep.Quiet
import Derived.StillTail
namespace Go.Proofs.Ytffnpokceomncaa
open Go.RowKit
set_option linter.unusedVariables false

theorem mem_ints {L : List Nat} {x : Nat} : (x : Int) ∈ ints L ↔ x ∈ L := by
  unfold ints
  rw [List.mem_map]
  constructor
  · rintro ⟨y, hy, e⟩
    have : y = x := by omega
    rw [← this]; exact hy
  · intro h; exact ⟨x, h, rfl⟩
/-- element x of A can be exchanged for one of B -/
def exX (L : List Nat) (A B x : Nat) : Prop := ∃ y, B.testBit y = true ∧ A.testBit y = false ∧ (nand A (bit x) ||| bit y) ∈ L
def exP (L : List Nat) (A B : Nat) : Prop := ∀ x, A.testBit x = true → B.testBit x = false → exX L A B x
def ExO (L : List Nat) (A B t : Nat) : Prop := ∀ x, A.testBit x = true → B.testBit x = false → t.testBit x = false → exX L A B x
def ExI (L : List Nat) (A B e v : Nat) (ok : Bool) : Prop := (ok = true → exX L A B e) ∧ (ok = false → ∀ y, B.testBit y = true → A.testBit y = false → v.testBit y = false → ¬ (nand A (bit e) ||| bit y) ∈ L)
theorem ExI.start (L : List Nat) (A B e : Nat) : ExI L A B e (nand B A) false := ⟨(fun h => by cases h), fun _ y h1 h2 h3 => by rw [nand_testBit, h1, h2] at h3; cases h3⟩
theorem ExI.end {L : List Nat} {A B e v : Nat} {ok : Bool} (h : ExI L A B e v ok) (hv : v = 0 ∨ ok = true) : ok = true ↔ exX L A B e := by
  constructor
  · exact h.1
  · rintro ⟨y, h1, h2, h3⟩
    cases ok with
    | true => rfl
    | false =>
      have hv0 : v = 0 := by simpa using hv
      exact absurd h3 (h.2 rfl y h1 h2 (by rw [hv0]; simp))

end Go.Proofs.Ytffnpokceomncaa

namespace Go.Proofs.Ytffnpokceomncaa
open Go.RowKit
set_option linter.unusedVariables false

def toN (l : List Int) : List Nat := l.map Int.toNat
theorem toN_len (l : List Int) : (toN l).length = l.length := by simp [toN]
theorem toN_getD (l : List Int) (i : Nat) : (toN l).getD i 0 = (l.getD i 0).toNat := by
  unfold toN
  by_cases h : i < l.length
  · simp [h]
  · simp [h]
theorem ints_toN {l : List Int} (h : ∀ i, i < l.length → 0 ≤ l.getD i 0) : ints (toN l) = l := by
  apply List.ext_getElem
  · simp [ints, toN]
  · intro i h1 h2
    have := h i h2
    simp [h2] at this
    simp [ints, toN]
    omega
theorem fam_ints {n : Int} {l : List Int} (h : isFam n l) : ints (toN l) = l := ints_toN (fun i hi => (h.2.2 i hi).1)
theorem fam_lt {n : Int} {l : List Int} (h : isFam n l) : ∀ b, b ∈ toN l → b < bit n.toNat := by
  intro b hb
  obtain ⟨i, hi, e⟩ := List.getElem_of_mem hb
  have hi' : i < l.length := by rw [toN_len] at hi; exact hi
  have h1 := h.2.2 i hi'
  have h2 : b = (l.getD i 0).toNat := by rw [← toN_getD, ← e]; simp [hi]
  have h3 := bit_le n.toNat (by have := h.2.1; omega)
  have h4 : all n = ((bit n.toNat - 1 : Nat) : Int) := rfl
  rw [h4] at h1
  omega
/-- a family of sets of one size, not none -/
def okM (n : Int) (l : List Int) : Prop := isFam n l ∧ l ≠ [] ∧ ∀ i, i < (toN l).length → sz ((toN l).getD i 0) = sz ((toN l).getD 0 0)
/-- what the check of a matroid answers -/
def MatIs (n : Int) (l : List Int) (e : Int) : Prop := (¬ okM n l → e = 1) ∧ (okM n l → ¬ Exch (toN l) → e = 3) ∧ (okM n l → Exch (toN l) → e = 0)
theorem MatIs.ex (n : Int) (l : List Int) : ∃ e, MatIs n l e := by
  by_cases h : okM n l
  · by_cases g : Exch (toN l)
    · exact ⟨0, fun x => absurd h x, fun _ x => absurd g x, fun _ _ => rfl⟩
    · exact ⟨3, fun x => absurd h x, fun _ _ => rfl, fun _ x => absurd x g⟩
  · exact ⟨1, fun _ => rfl, fun x => absurd x h, fun x => absurd x h⟩
theorem exch_getD {L : List Nat} : Exch L ↔ ∀ i, i < L.length → ∀ j, j < L.length → exP L (L.getD i 0) (L.getD j 0) := by
  constructor
  · intro h i hi j hj
    have h1 : L.getD i 0 ∈ L := by simp [hi]
    have h2 : L.getD j 0 ∈ L := by simp [hj]
    exact h _ h1 _ h2
  · intro h A hA B hB
    obtain ⟨i, hi, e1⟩ := List.getElem_of_mem hA
    obtain ⟨j, hj, e2⟩ := List.getElem_of_mem hB
    have := h i hi j hj
    have e3 : L.getD i 0 = A := by simp [hi, e1]
    have e4 : L.getD j 0 = B := by simp [hj, e2]
    rw [e3, e4] at this
    exact this
theorem okM.fam8 {n : Int} {l : List Int} (h : okM n l) : Fam8 (toN l) (sz ((toN l).getD 0 0)) where
  lt := fun b hb => by
    have := fam_lt h.1 b hb
    have h3 := bit_le n.toNat (by have := h.1.2.1; omega)
    omega
  eq := fun b hb => by
    obtain ⟨i, hi, e⟩ := List.getElem_of_mem hb
    have := h.2.2 i hi
    have e3 : (toN l).getD i 0 = b := by simp [hi, e]
    rw [e3] at this
    exact this

end Go.Proofs.Ytffnpokceomncaa

namespace Go.Proofs.Ytffnpokceomncaa
open Go.RowKit
set_option linter.unusedVariables false

section
variable {P : Program} {md : Region.Mode} {ops : Array Oper} {C : World → Prop}

/-- the head's operations in whatever order, each quiet; then L -/
def qHead (P : Program) (md : Region.Mode) (ops : Array Oper) (C : World → Prop) (n : Nat) (L : Array Bool → Act → Prop) : Nat → Array Bool → Act → Prop
  | 0, done, a => L done a
  | f + 1, done, a => Region.ready md ops done ≠ [] ∧ ∀ i, i ∈ Region.ready md ops done → i < n ∧ qOp P ops C i (qHead P md ops C n L f (done.setIfInBounds i true)) a

theorem qHead_any {n g : Nat} {L : Array Bool → Act → Prop} {Q : Exit → Act → World → Prop} (hL : ∀ done a w, C w → L done a → wpAny P md ops Q g done a w) (f : Nat) :
    ∀ (done : Array Bool) (a : Act) (w : World), C w → qHead P md ops C n L f done a → wpAny P md ops Q (f + g) done a w := by
  induction f with
  | zero =>
    intro done a w hw h
    have := hL done a w hw h
    rwa [Nat.zero_add]
  | succ f ih =>
    intro done a w hw h
    have e : f + 1 + g = f + g + 1 := by omega
    rw [e]
    refine ⟨fun h0 => absurd h0 h.1, fun i hi => ?_⟩
    exact wpOp_of_qOp hw (fun a' w' hw' h' => ih _ a' w' hw' h') (h.2 i hi).2

/-- an operation of the head that may come now may come first -/
theorem qHead_first {n i : Nat} {oi : Oper} {v : Value} {L : Array Bool → Act → Prop} (hi : ops[i]? = some oi) (hsel : ∀ (j : Nat) (o : Oper) cs b, ops[j]? = some o → o.op ≠ .select cs b)
    (hs : Region.sinkB md ops n = true) (hc : Region.chainB md ops n = true) (hn : n < ops.size) (hin : i < n) (hend : ∀ done a, L done a → ∀ j, j ∈ Region.ready md ops done → n ≤ j) (f : Nat) :
    ∀ (done : Array Bool) (a : Act), HeadInv md ops n done →
      (∀ j oj, ops[j]? = some oj → j ≠ i → done.getD j true = false → (∀ e ∈ oj.after, Region.binds md e = true → e.on ≠ i) → oi.apart ops oj = true) →
      i ∈ Region.ready md ops done → YieldsIn P ops C oi v a → qHead P md ops C n L f (done.setIfInBounds i true) (a.put oi.dst v) → qHead P md ops C n L (f + 1) done a := by
  induction f with
  | zero =>
    intro done a inv hfree hr hy H
    have hun := (mem_ready.1 hr).1
    refine ⟨(by intro h0; rw [h0] at hr; cases hr), fun j hj => ?_⟩
    have hjn : j < n := Nat.lt_of_not_le (fun h => tail_waits hs hc hn inv (n - i) i rfl hin hun j h hj)
    refine ⟨hjn, ?_⟩
    by_cases c : j = i
    · subst c; exact hy.qOp hi H
    · exact absurd (hend _ _ H j (ready_mono hj c)) (by omega)
  | succ f ih =>
    intro done a inv hfree hr hy H
    have hun := (mem_ready.1 hr).1
    refine ⟨(by intro h0; rw [h0] at hr; cases hr), fun j hj => ?_⟩
    have hjn : j < n := Nat.lt_of_not_le (fun h => tail_waits hs hc hn inv (n - i) i rfl hin hun j h hj)
    refine ⟨hjn, ?_⟩
    by_cases c : j = i
    · subst c; exact hy.qOp hi H
    · obtain ⟨hjun, oj, hoj, hall⟩ := mem_ready.1 hj
      have hnot : ∀ e ∈ oj.after, Region.binds md e = true → e.on ≠ i := by
        intro e he hb heq
        have hd := hall e he hb
        rw [heq, getD_both hun] at hd
        cases hd
      have step := qOp_put hoj (hfree j oj hoj c hjun hnot) (fun cs b => hsel i oi cs b hi) (fun cs b => hsel j oj cs b hoj) hy (H.2 j (ready_mono hj c)).2
      refine qOp_mono (fun a' h3 => ?_) step
      refine ih (done.setIfInBounds j true) a' (inv.set hj hjn) ?_ (ready_mono hr (Ne.symm c)) h3.1 ?_
      · intro k ok hk hki hku hno
        refine hfree k ok hk hki ?_ hno
        by_cases d : j = k
        · subst d; exact hjun
        · rwa [getD_set_ne true d] at hku
      · rw [Array.setIfInBounds_comm _ _ c]
        exact h3.2

theorem qHead_lex {n g : Nat} {K : Act → Prop} (hsel : Region.noSelect ops = true) (hs : Region.sinkB md ops n = true) (hc : Region.chainB md ops n = true) (hn : n < ops.size) (l : List Oper) :
    ∀ (k : Nat) (done : Array Bool) (a : Act), (∀ j, j < l.length → l[j]? = ops[k + j]?) → k + l.length = n → HeadInv md ops n done →
      Region.lexHead md ops g l.length k done = true → wpQuiet P ops C K l a → qHead P md ops C n (fun done' a' => Region.seqB md ops g n done' = true ∧ K a') l.length done a := by
  induction l with
  | nil =>
    intro k done a _ hk _ hB h
    have hkn : k = n := by simpa using hk
    subst hkn
    exact ⟨by simpa [Region.lexHead] using hB, h⟩
  | cons o l ih =>
    intro k done a hl hk inv hB h
    have h0 : ops[k]? = some o := by simpa using (hl 0 (by simp)).symm
    simp only [List.length_cons, Region.lexHead, Bool.and_eq_true] at hB
    have hkn : k < n := by simp only [List.length_cons] at hk; omega
    have hr : k ∈ Region.ready md ops done := by simpa using hB.1.1
    have hq : qOp P ops C k (wpQuiet P ops C K l) a := by unfold qOp; simp only [h0]; exact h
    obtain ⟨v, hy, hK⟩ := yieldsIn_of_qOp h0 hq
    refine qHead_first h0 (Region.noSelect_spec hsel) hs hc hn hkn (fun _ _ hL => seqB_ready hL.1) l.length done a inv (Region.free_spec h0 hB.1.2) hr hy ?_
    refine ih (k + 1) _ _ (fun j hj => ?_) (by simp only [List.length_cons] at hk; omega) (inv.set hr hkn) hB.2 hK
    have := hl (j + 1) (by simp; omega)
    simpa [Nat.add_assoc, Nat.add_comm 1 j] using this
end

theorem wp_region_quiet_tail {P : Program} {C : World → Prop} {id : Nat} {Q : Exit → Act → World → Prop} {a : Act} {w : World} {l : List Oper} (n : Nat) (hm : P.follows .mixedOrders = true) (hB : Region.lexTailB .any l.toArray n = true) (hC : C w.drew)
    (h : wpQuiet P l.toArray C (fun a' => ∀ w', C w' → wpList P l.toArray Q (l.drop n) a' w') (l.take n) a) : (Code.region id l.toArray true).wp P Q a w := by
  simp only [Region.lexTailB, Bool.and_eq_true, decide_eq_true_eq] at hB
  obtain ⟨⟨⟨⟨hsel, hn⟩, hs⟩, hc⟩, hlex⟩ := hB
  have hnl : n < l.length := by simpa using hn
  have htl : (l.take n).length = n := by simp; omega
  have inv0 : HeadInv .any l.toArray n (Array.replicate l.toArray.size false) := by
    refine ⟨by simp, fun j oj _ hl => ?_, fun t _ ht => getD_in (by simpa using ht) (getD_replicate_false _ _)⟩
    rw [getD_replicate_false] at hl; cases hl
  have H := qHead_lex (md := .any) (g := l.toArray.size - n) hsel hs hc hn (l.take n) 0 _ a (fun j hj => by
    have hj' : j < n := by rw [htl] at hj; exact hj
    simp [hj']) (by simpa using htl) inv0 (by rw [htl]; exact hlex) h
  refine wp_region_any hm ?_
  have fin := qHead_any (Q := Q) (g := l.toArray.size - n) (fun done a' w' hw' hL => by
    have := wpAny_of_seq (P := P) (md := .any) (ops := l.toArray) (l.drop n) n done a' w' (fun j => by simp) (by simpa using hL.1) (hL.2 w' hw')
    simpa using this) (l.take n).length (Array.replicate l.toArray.size false) a w.drew hC H
  have e : (l.take n).length + (l.toArray.size - n) = l.toArray.size := by rw [htl]; simp; omega
  rw [e] at fin
  exact fin

/-- from a later world: the tail in one more later world -/
theorem wp_region_later_qtail {P : Program} {id : Nat} {Q : Exit → Act → World → Prop} {a : Act} {B : Nat} {W : World} {l : List Oper} (u : Later B W) (n : Nat) (hm : P.follows .mixedOrders = true) (hB : Region.lexTailB .any l.toArray n = true)
    (h : Nonempty (Later B W) → wpQuiet P l.toArray (fun w' => ∃ u : Later B W, w' = u.val) (fun a' => ∀ v : Later B W, wpList P l.toArray Q (l.drop n) a' v.val) (l.take n) a) : (Code.region id l.toArray true).wp P Q a u.val := by
  refine wp_region_quiet_tail (C := fun w' => ∃ u : Later B W, w' = u.val) n hm hB ⟨u.drew, rfl⟩ ?_
  have e : (fun a' => ∀ w', (∃ u : Later B W, w' = u.val) → wpList P l.toArray Q (l.drop n) a' w') = (fun a' => ∀ v : Later B W, wpList P l.toArray Q (l.drop n) a' v.val) := by
    funext a'
    apply propext
    constructor
    · intro h v; exact h _ ⟨v, rfl⟩
    · rintro h _ ⟨v, rfl⟩; exact h v
  rw [e]
  exact h ⟨u⟩

end Go.Proofs.Ytffnpokceomncaa
