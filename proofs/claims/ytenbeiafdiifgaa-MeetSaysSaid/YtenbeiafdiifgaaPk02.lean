
/-
  Plain facts on sets as numbers below 256: the least element, what is left without it, one element in or out. No program in sight.
  Slices of int that a call makes itself: append of one number, append of a slice, make. Laws for the walk, over this seat's own type numbers.
-/
import Derived.Test.YtenbeiafdiifgaaPk01
import Derived.Laws.AppendOwnNone
import Derived.Deep.OwnRows
namespace Go.Proofs.Ytenbeiafdiifgaa
set_option linter.unusedVariables false

theorem i64_drop1 (a : Nat) (ha : a < 256) (h0 : 1 ≤ a) : bits .and .i64 (a : Int) ((a : Int) - 1) = ((drop1 a : Nat) : Int) := by
  have : ∀ a : Fin 256, 1 ≤ a.val → bits .and .i64 (a.val : Int) ((a.val : Int) - 1) = ((drop1 a.val : Nat) : Int) := by decide +kernel
  exact this ⟨a, ha⟩ h0

theorem low_facts (t : Nat) (ht : t < 256) (h0 : t ≠ 0) : ∃ e, e < 8 ∧ low t = bit e ∧ t.testBit e = true ∧ (∀ i, i < 8 → (drop1 t).testBit i = (t.testBit i && decide (i ≠ e))) ∧ (∀ i, i < 8 → t.testBit i = true → e ≤ i) ∧ drop1 t < t := by
  have : ∀ t : Fin 256, t.val ≠ 0 → ∃ e : Fin 8, low t.val = bit e.val ∧ t.val.testBit e.val = true ∧ (∀ i : Fin 8, (drop1 t.val).testBit i.val = (t.val.testBit i.val && decide (i.val ≠ e.val))) ∧ (∀ i : Fin 8, t.val.testBit i.val = true → e.val ≤ i.val) ∧ drop1 t.val < t.val := by decide +kernel
  obtain ⟨e, h1, h2, h3, h4, h5⟩ := this ⟨t, ht⟩ h0
  exact ⟨e.val, e.isLt, h1, h2, fun i hi => h3 ⟨i, hi⟩, fun i hi => h4 ⟨i, hi⟩, h5⟩
theorem low_lt (t : Nat) (ht : t < 256) : low t < 256 := nand_lt _ _ 8 ht
theorem drop1_lt (t : Nat) (ht : t < 256) : drop1 t < 256 := Nat.lt_of_le_of_lt Nat.and_le_left ht

/-- out of a set: its number less -/
theorem nand_bit (s e : Nat) (hs : s < 256) (he : e < 8) (h : s.testBit e = true) : nand s (bit e) = s - bit e := by
  have : ∀ s : Fin 256, ∀ e : Fin 8, s.val.testBit e.val = true → nand s.val (bit e.val) = s.val - bit e.val := by decide +kernel
  exact this ⟨s, hs⟩ ⟨e, he⟩ h
theorem or_bit (s e : Nat) (hs : s < 256) (he : e < 8) (h : s.testBit e = false) : s ||| bit e = s + bit e := by
  have : ∀ s : Fin 256, ∀ e : Fin 8, s.val.testBit e.val = false → s.val ||| bit e.val = s.val + bit e.val := by decide +kernel
  exact this ⟨s, hs⟩ ⟨e, he⟩ h
theorem bit_le_of_mem (s e : Nat) (hs : s < 256) (he : e < 8) (h : s.testBit e = true) : bit e ≤ s := by
  have : ∀ s : Fin 256, ∀ e : Fin 8, s.val.testBit e.val = true → bit e.val ≤ s.val := by decide +kernel
  exact this ⟨s, hs⟩ ⟨e, he⟩ h
theorem testBit_bit (e i : Nat) : (bit e).testBit i = decide (e = i) := by unfold bit; rw [Nat.testBit_two_pow]
theorem testBit_hi (s i : Nat) (hs : s < 256) (hi : 8 ≤ i) : s.testBit i = false :=
  Nat.testBit_lt_two_pow (Nat.lt_of_lt_of_le hs (by
    have : (2:Nat) ^ 8 ≤ 2 ^ i := Nat.pow_le_pow_right (by decide) hi
    omega))
theorem lt_of_testBit {s i : Nat} (hs : s < 256) (h : s.testBit i = true) : i < 8 := by
  by_cases hi : i < 8
  · exact hi
  · rw [testBit_hi s i hs (by omega)] at h; cases h
theorem eq_of_bits {a b : Nat} (ha : a < 256) (hb : b < 256) (h : ∀ i, i < 8 → a.testBit i = b.testBit i) : a = b := by
  apply Nat.eq_of_testBit_eq
  intro i
  by_cases hi : i < 8
  · exact h i hi
  · rw [testBit_hi a i ha (by omega), testBit_hi b i hb (by omega)]
theorem or_lt (a b : Nat) (ha : a < 256) (hb : b < 256) : a ||| b < 256 := Nat.or_lt_two_pow (n := 8) ha hb
theorem bit_lt256 (e : Nat) (h : e < 8) : bit e < 256 := by have := bit_lt e h; omega
theorem eq_zero_of_bits {a : Nat} (ha : a < 256) (h : ∀ i, i < 8 → a.testBit i = false) : a = 0 :=
  eq_of_bits ha (by decide) (fun i hi => by rw [h i hi]; simp)
theorem exists_bit {a : Nat} (ha : a < 256) (h : a ≠ 0) : ∃ i, i < 8 ∧ a.testBit i = true := by
  obtain ⟨e, he, _, h2, _⟩ := low_facts a ha h
  exact ⟨e, he, h2⟩
/-- a set of n elements has no element from n on -/
theorem lt_pow_iff (n s : Nat) (hn : n ≤ 8) (hs : s < 256) : s < bit n ↔ ∀ i, i < 8 → s.testBit i = true → i < n := by
  have : ∀ n : Fin 9, ∀ s : Fin 256, s.val < bit n.val ↔ ∀ i : Fin 8, s.val.testBit i.val = true → i.val < n.val := by decide +kernel
  have := this ⟨n, by omega⟩ ⟨s, hs⟩
  rw [this]
  exact ⟨fun h i hi => h ⟨i, hi⟩, fun h i => h i.val i.isLt⟩
theorem testBit_all (n i : Nat) : (bit n - 1).testBit i = decide (i < n) := by unfold bit; exact Nat.testBit_two_pow_sub_one ..
/-- a is within b -/
theorem or_eq_iff {a b : Nat} : a ||| b = b ↔ ∀ i, a.testBit i = true → b.testBit i = true := by
  constructor
  · intro h i hi; rw [← h, Nat.testBit_or, hi]; rfl
  · intro h
    apply Nat.eq_of_testBit_eq
    intro i
    rw [Nat.testBit_or]
    cases ha : a.testBit i
    · simp
    · simp [h i ha]
theorem and_eq_zero_iff {a b : Nat} : a &&& b = 0 ↔ ∀ i, a.testBit i = true → b.testBit i = false := by
  constructor
  · intro h i hi
    have := congrArg (fun x => x.testBit i) h
    simpa [Nat.testBit_and, hi] using this
  · intro h
    apply Nat.eq_of_testBit_eq
    intro i
    rw [Nat.testBit_and, Nat.zero_testBit]
    cases ha : a.testBit i
    · simp
    · simp [h i ha]

/-- s >> i & 1 -/
theorem i64_bit (s i : Nat) (hs : s < 256) (hi : i < 8) : bits .and .i64 ((s : Int) / ((bit i : Nat) : Int)) 1 = (((s.testBit i).toNat : Nat) : Int) := by
  have : ∀ s : Fin 256, ∀ i : Fin 8, bits .and .i64 (((s.val / bit i.val : Nat) : Int)) 1 = (((s.val.testBit i.val).toNat : Nat) : Int) := by decide +kernel
  rw [← this ⟨s, hs⟩ ⟨i, hi⟩, Int.natCast_ediv]
theorem testBit_low {t e i : Nat} (h : low t = bit e) : (low t).testBit i = decide (e = i) := by rw [h, testBit_bit]
theorem and_low_zero {a t e : Nat} (h : low t = bit e) : (a &&& low t = 0) ↔ a.testBit e = false := by
  rw [h, and_eq_zero_iff]
  constructor
  · intro h
    cases hb : a.testBit e
    · rfl
    · have := h e hb; rw [testBit_bit] at this; simp at this
  · intro h i hi
    rw [testBit_bit]
    by_cases c : e = i
    · subst c; rw [h] at hi; cases hi
    · simp [c]
/-- a set of what is so -/
theorem exists_set (P : Nat → Prop) : ∃ X, X < 256 ∧ ∀ i, i < 8 → (X.testBit i = true ↔ P i) := by
  have step : ∀ k, k ≤ 8 → ∃ X, X < 256 ∧ ∀ i, i < 8 → (X.testBit i = true ↔ (i < k ∧ P i)) := by
    intro k
    induction k with
    | zero => intro _; exact ⟨0, by decide, fun i _ => by simp⟩
    | succ k ih =>
      intro hk
      obtain ⟨X, hX, h⟩ := ih (by omega)
      by_cases hp : P k
      · refine ⟨X ||| bit k, or_lt _ _ hX (bit_lt256 k (by omega)), fun i hi => ?_⟩
        rw [Nat.testBit_or, testBit_bit]
        by_cases c : k = i
        · subst c; simp [hp]
        · simp only [c, decide_false, Bool.or_false]
          rw [h i hi]
          constructor
          · rintro ⟨a, b⟩; exact ⟨by omega, b⟩
          · rintro ⟨a, b⟩; exact ⟨by omega, b⟩
      · refine ⟨X, hX, fun i hi => ?_⟩
        rw [h i hi]
        constructor
        · rintro ⟨a, b⟩; exact ⟨by omega, b⟩
        · rintro ⟨a, b⟩
          by_cases c : i = k
          · subst c; exact absurd b hp
          · exact ⟨by omega, b⟩
  obtain ⟨X, hX, h⟩ := step 8 (Nat.le_refl _)
  exact ⟨X, hX, fun i hi => by rw [h i hi]; exact ⟨fun x => x.2, fun x => ⟨hi, x⟩⟩⟩

end Go.Proofs.Ytenbeiafdiifgaa

namespace Go.Proofs.Ytenbeiafdiifgaa
open Go.RowKit
set_option linter.unusedVariables false

theorem info_int : (Try.prog.info? 3).map (fun i => (i.zero, i.size, i.bytes)) = some (some (.int .i64 0), 1, 8) := by kernel_rfl

/-- an argument's slice reads as its numbers -/
theorem IntsAt.of_cells {W : World} {x : Addr} {n c : Nat} {zs : List Int} {ps : List MemPlace} (hlt : ∀ p ∈ MemPlace.row x zs.length ++ ps, p.block < W.heap.size) (hz : zs.length = c) (hcell : ∀ i, i < zs.length → W.cell? (x.add i) = some (.int .i64 (zs.getD i 0))) :
    IntsAt W.heap.size W (some x) (zs.take n) := by
  intro hne
  have h0 : 0 < zs.length := by
    rcases Nat.eq_zero_or_pos zs.length with h | h
    · have := List.length_eq_zero_iff.1 h
      subst this
      simp at hne
    · exact h
  obtain ⟨b, off, spot⟩ := x
  have hspot : spot = none := by simpa [Addr.add] using World.cell?_spot (hcell 0 h0)
  subst hspot
  refine ⟨b, off, rfl, hlt (.cell b off) (List.mem_append_left _ (MemPlace.mem_row.2 ⟨0, by omega, by simp⟩)), fun k hk => ?_⟩
  simp at hk
  have hk1 : k < n := by omega
  have hk2 : k < zs.length := by omega
  have := hcell k hk2
  have hadd : (⟨b, off, none⟩ : Addr).add k = ⟨b, off + k, none⟩ := by unfold Addr.add; split <;> simp_all
  rw [hadd] at this
  rw [this]
  simp [hk1, hk2]

/-- a row of numbers that the call owns -/
def Own (B : Nat) (w : World) (ad : Option Addr) (cap : Nat) (xs : List Int) : Prop := w.ownsRow B 3 1 (.slice ad xs.length cap) xs.length (xs.map (Value.int .i64))
theorem Own.nil (B : Nat) (w : World) : Own B w none 0 [] := World.ownsRow_nil w B 3 1
theorem Own.reads {B : Nat} {w : World} {ad : Option Addr} {cap : Nat} {xs : List Int} (h : Own B w ad cap xs) : IntsAt w.heap.size w ad xs := IntsAt.of_owns h
theorem Own.cap {B : Nat} {w : World} {ad : Option Addr} {cap : Nat} {xs : List Int} (h : Own B w ad cap xs) : ad = none → cap = 0 := by
  rintro rfl
  rcases h.2 with ⟨e, _⟩ | ⟨g, c, cur, e, _⟩
  · simp only [Value.slice.injEq] at e; exact e.2.2
  · simp at e
theorem Own.alloc {B : Nat} {w : World} {ad : Option Addr} {cap : Nat} {xs : List Int} (h : Own B w ad cap xs) (o : Obj) : Own B (w.alloc o) ad cap xs := World.ownsRow.alloc h o
/-- kept by whatever leaves old blocks alone -/
theorem Own.keep {B : Nat} {w w' : World} {ad : Option Addr} {cap : Nat} {xs : List Int} (h : Own B w ad cap xs) (hb : Below w.heap.size w w') : Own B w' ad cap xs :=
  World.ownsRow.kept (row := none) h ⟨hb.os, hb.tape, hb.output, hb.size, fun k hk _ => hb.block k hk⟩ (by cases (Value.slice ad xs.length cap).ownBlock <;> simp)
/-- kept over a write to a row that is not it -/
theorem Own.kept {B : Nat} {w w' : World} {ad : Option Addr} {cap : Nat} {xs : List Int} (h : Own B w ad cap xs) {row : Option Nat} (hg : w.grownBy w' row) (hne : (Value.slice ad xs.length cap).ownBlock = none ∨ (Value.slice ad xs.length cap).ownBlock ≠ row) : Own B w' ad cap xs :=
  World.ownsRow.kept h hg hne
theorem Own.lit {B : Nat} {w : World} (hB : B ≤ w.heap.size) (x : Int) : Own B (w.alloc (.cells #[.int .i64 x] 3)) (some ⟨w.heap.size, 0, none⟩) 1 [x] :=
  ⟨by simp, .inr ⟨w.heap.size, 1, #[.int .i64 x], rfl, hB, heap_alloc_new w _, by simp, by simp [maxLen], by simp, by simp⟩⟩

/-- the reading of a slice's value: its numbers, at blocks below B -/
def Reads (B : Nat) (w : World) (v : Value) (xs : List Int) : Prop := ∃ ad cap, v = .slice ad xs.length cap ∧ IntsAt B w ad xs ∧ (ad = none → cap = 0)
theorem Reads.mk {B : Nat} {w : World} {ad : Option Addr} {cap : Nat} {xs : List Int} (h : IntsAt B w ad xs) (hc : ad = none → cap = 0) : Reads B w (.slice ad xs.length cap) xs := ⟨ad, cap, rfl, h, hc⟩
theorem Reads.of_own {B : Nat} {w : World} {ad : Option Addr} {cap : Nat} {xs : List Int} (h : Own B w ad cap xs) : Reads w.heap.size w (.slice ad xs.length cap) xs := ⟨ad, cap, rfl, h.reads, h.cap⟩
theorem Reads.nil (B : Nat) (w : World) : Reads B w (.slice none 0 0) [] := ⟨none, 0, rfl, IntsAt.nil, fun _ => rfl⟩
theorem Reads.keep {B : Nat} {w w' : World} {v : Value} {xs : List Int} (h : Reads B w v xs) (hb : Below B w w') : Reads B w' v xs := by
  obtain ⟨ad, cap, e, hi, hc⟩ := h
  exact ⟨ad, cap, e, hi.later hb, hc⟩
theorem Reads.mono {B B' : Nat} {w : World} {v : Value} {xs : List Int} (h : Reads B w v xs) (hb : B ≤ B') : Reads B' w v xs := by
  obtain ⟨ad, cap, e, hi, hc⟩ := h
  exact ⟨ad, cap, e, hi.mono hb, hc⟩
/-- a result: a list of numbers -/
def RetInts (B : Nat) (W : World) (xs : List Int) : Ending → World → Prop := RetP B W fun v w => Reads w.heap.size w v xs

/-- append of a slice that reads as a list, to a row of the call's own: also what the append has left alone is told -/
theorem wpList_appends_g {w : World} {B : Nat} (hB : B ≤ w.heap.size) {ops : Array Oper} {rest : List Oper} {o : Oper} {a : Act} {Q : Exit → Act → World → Prop} (hgd : o.guard = none) (s x : Operand)
    (ho : o.op = .call { callee := .builtin .append, args := #[s, x], argTypes := #[22, 22] })
    (xs : List Int) (ad : Option Addr) (cap : Nat) (hs : a.eval s = .slice ad xs.length cap) (hown : Own B w ad cap xs)
    (ys : List Int) (ax : Option Addr) (cx : Nat) (hx : a.eval x = .slice ax ys.length cx) (hy : IntsAt w.heap.size w ax ys) (hcx : ax = none → cx = 0)
    (hlen : xs.length + ys.length ≤ 17592186044416)
    (h : ∀ (w' : World) (ad' : Option Addr) (cap' : Nat), Own B w' ad' cap' (xs ++ ys) → w.grownBy w' (Value.slice ad xs.length cap).ownBlock → wpList Try.prog ops Q rest (a.put o.dst (.slice ad' (xs ++ ys).length cap')) w') :
    wpList Try.prog ops Q (o :: rest) a w := by
  obtain ⟨i0, hi, hz0, hz1, hz2⟩ := info_parts info_int
  have grow : ∀ (v' : Value) (w' : World), w'.ownsRow B 3 1 v' (xs ++ ys).length ((xs ++ ys).map (Value.int .i64)) → w.grownBy w' (Value.slice ad xs.length cap).ownBlock → wpList Try.prog ops Q rest (a.put o.dst v') w' := by
    intro v' w' h1 h2
    rcases h1.2 with ⟨e, hn⟩ | ⟨g, c', cur, e, _⟩
    · subst e
      have hz := h w' none 0 (by
        have hnil : xs ++ ys = [] := List.length_eq_zero_iff.1 hn
        show w'.ownsRow B 3 1 (.slice none (xs ++ ys).length 0) (xs ++ ys).length ((xs ++ ys).map (Value.int .i64))
        rw [hnil]; exact World.ownsRow_nil _ _ _ _) h2
      rw [hn] at hz; exact hz
    · subst e
      exact h w' (some ⟨g, 0, none⟩) c' h1 h2
  cases hax : ax with
  | none =>
    subst hax
    have hc0 := hcx rfl
    subst hc0
    have hyl : ys = [] := by
      by_cases e : ys = []
      · exact e
      · obtain ⟨b, off, e2, _⟩ := hy e; cases e2
    subst hyl
    refine wpList_append_own_none hgd s x 22 ho B 3 i0 1 Try.underlying22 hi _ xs.length _ hs hown hx ?_
    have := grow (.slice ad xs.length cap) w (by rw [List.append_nil]; exact hown) ⟨rfl, rfl, rfl, Nat.le_refl _, fun _ _ _ => rfl⟩
    exact this
  | some p =>
    subst hax
    refine wpList_append_own w hgd s x 22 ho B 3 i0 (.int .i64 0) 1 8 Try.underlying22 hi hz0 hz1 hz2 rfl (by decide) _ xs.length _ hs hown p ys.length cx (ys.map (Value.int .i64)) hx (by simp) ?_ ?_ ?_ ?_ hB ?_
    · intro j v hj
      by_cases e : ys = []
      · subst e; simp at hj
      · obtain ⟨b, off, e2, _, hc⟩ := hy e
        simp only [Option.some.injEq] at e2
        subst e2
        have hjl : j < ys.length := by
          have := (List.getElem?_eq_some_iff.1 hj).1
          simpa using this
        have hcj := hc j hjl
        have hadd : (⟨b, off, none⟩ : Addr).add j = ⟨b, off + j, none⟩ := by unfold Addr.add; split <;> simp_all
        rw [hadd, hcj]
        simp [hjl] at hj
        rw [← hj]
        simp [hjl]
    · intro v hv
      simp at hv
      obtain ⟨y, _, rfl⟩ := hv
      rfl
    · unfold maxLen; omega
    · omega
    · intro v' w' h1 h2 _
      exact grow v' w' (by simpa using h1) h2

theorem own_below {B : Nat} {W w w' : World} {ad : Option Addr} {cap : Nat} {xs : List Int} (u : Below B W w) (hB : B ≤ w.heap.size) (hown : Own B w ad cap xs) (hg : w.grownBy w' (Value.slice ad xs.length cap).ownBlock) : Below B W w' :=
  u.grown hg hB (fun k hk => (World.ownsRow.lt hown k hk).1)

/-- append of one number to a row of the call's own -/
theorem wpList_push {B : Nat} {W w : World} (hw : Below B W w) (hB : B ≤ w.heap.size) {ops : Array Oper} {rest : List Oper} {o : Oper} {a : Act} {Q : Exit → Act → World → Prop} (hgd : o.guard = none) (s x : Operand)
    (ho : o.op = .call { callee := .builtin .append, args := #[s, x], argTypes := #[22, 22] })
    (xs : List Int) (ad : Option Addr) (cap : Nat) (y : Int) (hs : a.eval s = .slice ad xs.length cap) (hown : Own B w ad cap xs)
    (hx : a.eval x = .slice (some ⟨w.heap.size, 0, none⟩) 1 1)
    (hlen : xs.length + 1 ≤ 17592186044416)
    (h : ∀ (u' : Later B W) (ad' : Option Addr) (cap' : Nat), Own B u'.val ad' cap' (xs ++ [y]) → wpList Try.prog ops Q rest (a.put o.dst (.slice ad' (xs ++ [y]).length cap')) u'.val) :
    wpList Try.prog ops Q (o :: rest) a (w.alloc (.cells #[.int .i64 y] 3)) := by
  refine wpList_appends_g (B := B) (by simp; omega) hgd s x ho xs ad cap hs (hown.alloc _) [y] (some ⟨w.heap.size, 0, none⟩) 1 hx ?_ (by simp) (by simpa using hlen) ?_
  · intro _
    refine ⟨w.heap.size, 0, rfl, by simp, fun k hk => ?_⟩
    have : k = 0 := by simp at hk; omega
    subst this
    exact cell_one_new w (.int .i64 y) 3 0 _ rfl
  · intro w' ad' cap' h1 h2
    exact h ⟨w', own_below (hw.alloc hB _) (by simp; omega) (hown.alloc _) h2, by have := h2.size; simp at this; omega⟩ ad' cap' h1

end Go.Proofs.Ytenbeiafdiifgaa
