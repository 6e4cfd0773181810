
/-
  rotaref.FirstWays: its captured list, of which the first rows count.
  Rising lists, plainly: a rising list is told by its members; a sorted list without its doubles is the list of all sets that are in it.
-/
import Derived.Test.YtnhpefcjgaimeaaPk33
import Derived.Deep.RegionLawGrows
import Derived.Deep.RegionHeld3
import Derived.Test.YtnhpefcjgaimeaaPk03
import Derived.Lib.SlicesCompact
namespace Go.Proofs.Ytnhpefcjgaimeaa
open Go.RowKit
set_option linter.unusedVariables false

/-- the captured list: its first rows -/
structure OutR (b : Nat) (w : World) (ad : Option Addr) (len cp : Nat) (rows : Rws) : Prop where
  box : RowAt1 w b 29 (.slice ad len cp)
  le : rows.length ≤ len
  room : len ≤ cp
  nil : ad = none → cp = 0
  base : ∀ x, ad = some x → ∃ g, x = ⟨g, 0, none⟩
  at0 : ∀ i, i < rows.length → ∃ g ad' cp', ad = some ⟨g, 0, none⟩ ∧ g < w.heap.size ∧ g ≠ b ∧ w.cell? ⟨g, i, none⟩ = some (.slice ad' (ints (rows.getD i [])).length cp') ∧ RowV w b none (rows.getD i []) ad' cp'
theorem OutR.start {b : Nat} {w : World} (h : RowAt1 w b 29 (.slice none 0 0)) : OutR b w none 0 0 [] :=
  ⟨h, Nat.le_refl _, Nat.le_refl _, fun _ => rfl, fun x hx => (by cases hx), fun i hi => (by simp at hi)⟩
theorem OutR.keep {b : Nat} {w w' : World} {ad : Option Addr} {len cp : Nat} {rows : Rws} (h : OutR b w ad len cp rows) (hb : Below w.heap.size w w') : OutR b w' ad len cp rows where
  box := h.box.keep hb
  le := h.le
  room := h.room
  nil := h.nil
  base := h.base
  at0 := fun i hi => by
    obtain ⟨g, ad', cp', e, h1, h2, h3, h4⟩ := h.at0 i hi
    refine ⟨g, ad', cp', e, Nat.lt_of_lt_of_le h1 hb.size, h2, ?_, h4.kept (Kept.of hb) (NewB.refl _ _)⟩
    rw [World.cell?_of_block (w := w) (hb.block g h1)]; exact h3
theorem OutR.cut {b : Nat} {w : World} {ad : Option Addr} {len cp : Nat} {rows r : Rws} (h : OutR b w ad len cp (rows ++ r)) : OutR b w ad len cp rows where
  box := h.box
  le := by have := h.le; rw [List.length_append] at this; omega
  room := h.room
  nil := h.nil
  base := h.base
  at0 := fun i hi => by
    have := h.at0 i (by rw [List.length_append]; omega)
    rwa [show (rows ++ r).getD i [] = rows.getD i [] by rw [List.getD_eq_getElem?_getD, List.getD_eq_getElem?_getD, List.getElem?_append_left hi]] at this

/-- a world in which one list more lies behind them, in a new block; the cell is still the old one -/
structure PushR (b : Nat) (w : World) (rows : Rws) (row : List Nat) where
  val : World
  g : Nat
  cp' : Nat
  below : Below w.heap.size w val
  out : OutR b (val.setCell ⟨b, 0, none⟩ (.slice (some ⟨g, 0, none⟩) (rows.length + 1) cp')) (some ⟨g, 0, none⟩) (rows.length + 1) cp' (rows ++ [row])
theorem PushR.kept {b : Nat} {w : World} {rows : Rws} {row : List Nat} (p : PushR b w rows row) (x : Value) : Kept b none w (p.val.setCell ⟨b, 0, none⟩ x) :=
  ⟨p.below.os, p.below.tape, p.below.output, by simpa using p.below.size, fun k hk hb _ => (Below.heap_setCell _ _ _ _ hb).trans (p.below.block k hk)⟩

theorem step_outR {b : Nat} {w : World} {ad : Option Addr} {len cp : Nat} {rows : Rws} (hO : OutR b w ad len cp rows) {row : List Nat} {ar : Option Addr} {cr : Nat} (hR : RowV w b none row ar cr)
    {ops : Array Oper} {o : Oper} {a : Act} {K : Act → World → Prop} {Q : Exit → Act → World → Prop} {E : Prop} (hgd : o.guard = none) (s x : Operand)
    (ho : o.op = .call { callee := .builtin .append, args := #[s, x], argTypes := #[29, 29] })
    (hs : a.eval s = .slice ad rows.length rows.length) (hx : a.eval x = .slice (some ⟨w.heap.size, 0, none⟩) 1 1)
    (hlen : rows.length + 1 ≤ 4294967296)
    (h : ∀ p : PushR b w rows row, K (a.put o.dst (.slice (some ⟨p.g, 0, none⟩) (rows.length + 1) p.cp')) p.val) :
    if Region.wanted o (yielded ops a.tmps) = true then Oper.wp Try.prog o a (w.alloc (.cells #[.slice ar (ints row).length cr] 43)) K Q else E := by
  obtain ⟨i0, hi, hz0, hz1, hz2⟩ := info_parts info_row
  have hbw : b < w.heap.size := (Array.getElem?_eq_some_iff.1 (show w.heap[b]? = _ from hO.box)).1
  have hal : Below w.heap.size w (w.alloc (.cells #[.slice ar (ints row).length cr] 43)) := (Below.refl _ _).alloc (Nat.le_refl _) _
  have hsz : (w.alloc (.cells #[.slice ar (ints row).length cr] 43)).heap.size = w.heap.size + 1 := by simp
  -- what lies there
  obtain ⟨olds, hol, hoc⟩ : ∃ olds : List Value, olds.length = rows.length ∧ ∀ i, i < rows.length → ∃ ad' cp', olds[i]? = some (.slice ad' (ints (rows.getD i [])).length cp') ∧ RowV w b none (rows.getD i []) ad' cp' ∧ ∃ g, ad = some ⟨g, 0, none⟩ ∧ g < w.heap.size ∧ w.cell? ⟨g, i, none⟩ = some (.slice ad' (ints (rows.getD i [])).length cp') := by
    have key : ∀ n, n ≤ rows.length → ∃ olds : List Value, olds.length = n ∧ ∀ i, i < n → ∃ ad' cp', olds[i]? = some (.slice ad' (ints (rows.getD i [])).length cp') ∧ RowV w b none (rows.getD i []) ad' cp' ∧ ∃ g, ad = some ⟨g, 0, none⟩ ∧ g < w.heap.size ∧ w.cell? ⟨g, i, none⟩ = some (.slice ad' (ints (rows.getD i [])).length cp') := by
      intro n
      induction n with
      | zero => exact fun _ => ⟨[], rfl, fun i hi => by omega⟩
      | succ n ih =>
        intro hn
        obtain ⟨l, h1, h2⟩ := ih (by omega)
        obtain ⟨g, ad', cp', e, f1, _, f3, f4⟩ := hO.at0 n (by omega)
        refine ⟨l ++ [.slice ad' (ints (rows.getD n [])).length cp'], by simp [h1], fun i hi => ?_⟩
        by_cases c : i < n
        · obtain ⟨a1, c1, e1, r1⟩ := h2 i c
          exact ⟨a1, c1, by rw [List.getElem?_append_left (by omega)]; exact e1, r1⟩
        · have hie : i = n := by omega
          subst hie
          exact ⟨ad', cp', by rw [List.getElem?_append_right (by omega), h1]; simp, f4, g, e, f1, f3⟩
    exact key _ (Nat.le_refl _)
  refine step_append_grows hgd s x 29 ho 43 i0 (.slice none 0 0) 1 24 Try.underlying29 hi hz0 hz1 hz2 rfl (by decide) ad rows.length rows.length olds hs ?_ (by omega) ?_ ⟨w.heap.size, 0, none⟩ 1 1 [.slice ar (ints row).length cr] hx rfl ?_ ?_ (by omega) (by unfold maxLen; omega) (by omega) ?_
  · intro e
    have h1 := hO.nil e
    have h2 := hO.le
    have h3 := hO.room
    omega
  · intro b0 e j v hj
    obtain ⟨g, hg⟩ := hO.base b0 e
    subst hg
    have hjl : j < rows.length := by
      have := (List.getElem?_eq_some_iff.1 hj).1
      omega
    obtain ⟨ad', cp', e1, _, g', e2, e3, e4⟩ := hoc j hjl
    rw [e] at e2
    simp only [Option.some.injEq, Addr.mk.injEq] at e2
    obtain ⟨e2, _⟩ := e2
    subst e2
    rw [e1] at hj
    simp only [Option.some.injEq] at hj
    subst hj
    rw [show (⟨g, 0, none⟩ : Addr).add j = ⟨g, j, none⟩ by unfold Addr.add; split <;> simp_all]
    rw [World.cell?_of_block (w := w) (hal.block g e3)]
    exact e4
  · intro j v hj
    have hj0 : j = 0 := by
      have := (List.getElem?_eq_some_iff.1 hj).1
      simp at this
      omega
    subst hj0
    rw [show (⟨w.heap.size, 0, none⟩ : Addr).add 0 = ⟨w.heap.size, 0, none⟩ by unfold Addr.add; split <;> simp_all]
    simp at hj
    subst hj
    exact cell_one_new w _ 43 0 _ rfl
  · intro v hv
    simp at hv
    subst hv
    rfl
  · intro v' w' hown hgr
    have hbel : Below w.heap.size w w' := ⟨hgr.os.trans hal.os, hgr.tape.trans hal.tape, hgr.output.trans hal.output, by have := hgr.size; omega, fun k hk => by
      rw [hgr.block k (by omega) (by simp), hal.block k hk]⟩
    rcases hown.2 with ⟨_, hz⟩ | ⟨g, cp', cur, rfl, hgb, hh, hn, hcm, hcs, ht⟩
    · omega
    have hgs : g < w'.heap.size := (Array.getElem?_eq_some_iff.1 hh).1
    have hgB : w.heap.size ≤ g := by omega
    refine h ⟨w', g, cp', hbel, ?_⟩
    have hkp : Kept b none w (w'.setCell ⟨b, 0, none⟩ (.slice (some ⟨g, 0, none⟩) (rows.length + 1) cp')) := ⟨hbel.os, hbel.tape, hbel.output, by simpa using hbel.size, fun k hk hb _ => (Below.heap_setCell _ _ _ _ hb).trans (hbel.block k hk)⟩
    refine ⟨(hO.box.keep hbel).store, by simp, hn, fun e => (by cases e), fun x hx => ⟨g, by cases hx; rfl⟩, fun i hi => ?_⟩
    have hcell : ∀ x, (olds ++ [.slice ar (ints row).length cr])[i]? = some x → (w'.setCell ⟨b, 0, none⟩ (.slice (some ⟨g, 0, none⟩) (rows.length + 1) cp')).cell? ⟨g, i, none⟩ = some x := fun x hx => by
      rw [World.cell?_setCell_far _ _ _ _ (by show b ≠ g; omega), cell_of_row w' g i _ _ _ hh]
      rw [← ht, List.getElem?_take_of_lt (by rw [List.length_append] at hi; simp at hi; omega)] at hx
      simpa using hx
    have hgs2 : g < (w'.setCell ⟨b, 0, none⟩ (.slice (some ⟨g, 0, none⟩) (rows.length + 1) cp')).heap.size := by simpa using hgs
    rw [List.length_append] at hi
    simp at hi
    by_cases c : i < rows.length
    · obtain ⟨ad', cp2, e1, r1, _⟩ := hoc i c
      rw [getD_rows_lt c]
      exact ⟨g, ad', cp2, rfl, hgs2, by omega, hcell _ (by rw [List.getElem?_append_left (by omega)]; exact e1), r1.kept hkp (NewB.refl _ _)⟩
    · have hie : i = rows.length := by omega
      subst hie
      rw [getD_rows_eq]
      exact ⟨g, ar, cr, rfl, hgs2, by omega, hcell _ (by rw [List.getElem?_append_right (by omega), hol]; simp), hR.kept hkp (NewB.refl _ _)⟩

end Go.Proofs.Ytnhpefcjgaimeaa

namespace Go.Proofs.Ytnhpefcjgaimeaa
set_option linter.unusedVariables false

theorem pw_ext : ∀ {l1 l2 : List Int}, l1.Pairwise (· < ·) → l2.Pairwise (· < ·) → (∀ x, x ∈ l1 ↔ x ∈ l2) → l1 = l2
  | [], [], _, _, _ => rfl
  | [], b :: s, _, _, h => by have := (h b).2 List.mem_cons_self; cases this
  | a :: t, [], _, _, h => by have := (h a).1 List.mem_cons_self; cases this
  | a :: t, b :: s, h1, h2, h => by
    rw [List.pairwise_cons] at h1 h2
    have hab : a = b := by
      rcases List.mem_cons.1 ((h a).1 List.mem_cons_self) with e | e
      · exact e
      · rcases List.mem_cons.1 ((h b).2 List.mem_cons_self) with g | g
        · exact g.symm
        · have := h2.1 a e
          have := h1.1 b g
          omega
    subst hab
    have ht : t = s := pw_ext h1.2 h2.2 (fun x => by
      constructor
      · intro hx
        rcases List.mem_cons.1 ((h x).1 (List.mem_cons_of_mem _ hx)) with e | e
        · have := h1.1 x hx; omega
        · exact e
      · intro hx
        rcases List.mem_cons.1 ((h x).2 (List.mem_cons_of_mem _ hx)) with e | e
        · have := h2.1 x hx; omega
        · exact e)
    rw [ht]
theorem those_pw (m : Nat) (p : Nat → Bool) : (ints (those m p)).Pairwise (· < ·) := by
  unfold ints those
  rw [List.pairwise_map]
  refine (List.Pairwise.filter p List.pairwise_lt_range).imp ?_
  intro a b h
  omega
/-- sorted, as slices.Sort has it -/
def srt (l : List Int) : List Int := l.mergeSort fun x y => decide (x ≤ y)
theorem srt_len (l : List Int) : (srt l).length = l.length := List.length_mergeSort _
theorem srt_mem {l : List Int} {x : Int} : x ∈ srt l ↔ x ∈ l := List.mem_mergeSort
theorem srt_pw (l : List Int) : (srt l).Pairwise (· ≤ ·) := by
  have h := List.pairwise_mergeSort (le := fun x y : Int => decide (x ≤ y)) (fun a b c h1 h2 => by simp at *; omega) (fun a b => by simp; omega) l
  exact h.imp (fun h => by simpa using h)
/-- without doubles, as slices.Compact has it -/
def cpt (l : List Int) : List Int := Lib.compact l
theorem pw_get {l : List Int} (h : l.Pairwise (· ≤ ·)) {i j : Nat} (hij : i ≤ j) (hj : j < l.length) : l.getD i 0 ≤ l.getD j 0 := by
  by_cases e : i = j
  · subst e; exact Int.le_refl _
  · have := List.pairwise_iff_getElem.1 h i j (by omega) hj (by omega)
    have h1 : l.getD i 0 = l[i] := by simp [show i < l.length by omega]
    have h2 : l.getD j 0 = l[j] := by simp [hj]
    rw [h1, h2]; exact this
theorem arr_get (l : List Int) {i : Nat} (h : i < l.length) : l.toArray[i]! = l.getD i 0 := by
  simp [h]
theorem cpt_eq (l : List Int) : cpt l = ((List.range l.length).filter (fun j => decide (j = 0 ∨ l.getD j 0 ≠ l.getD (j - 1) 0))).map (fun j => l.getD j 0) := by
  unfold cpt Lib.compact Lib.compactUpTo
  have h1 : (List.range l.length).filter (Lib.keeps l.toArray) = (List.range l.length).filter (fun j => decide (j = 0 ∨ l.getD j 0 ≠ l.getD (j - 1) 0)) := List.filter_congr (fun j hj => by
    have hj' : j < l.length := by simpa using hj
    unfold Lib.keeps
    rw [arr_get l hj', arr_get l (show j - 1 < l.length by omega)])
  rw [h1]
  refine List.map_congr_left (fun j hj => ?_)
  have hj' : j < l.length := by
    have := (List.mem_filter.1 hj).1
    simpa using this
  exact arr_get l hj'
theorem cpt_pw {l : List Int} (h : l.Pairwise (· ≤ ·)) : (cpt l).Pairwise (· < ·) := by
  rw [cpt_eq, List.pairwise_map]
  have hp : ((List.range l.length).filter (fun j => decide (j = 0 ∨ l.getD j 0 ≠ l.getD (j - 1) 0))).Pairwise (· < ·) := List.Pairwise.filter _ List.pairwise_lt_range
  refine List.Pairwise.imp_of_mem (fun {a b} ha hb hab => ?_) hp
  have hb1 := List.mem_filter.1 hb
  have hbl : b < l.length := by simpa using hb1.1
  have hbk : b = 0 ∨ l.getD b 0 ≠ l.getD (b - 1) 0 := of_decide_eq_true hb1.2
  have h1 := pw_get h (show a ≤ b - 1 by omega) (by omega)
  have h2 := pw_get h (show b - 1 ≤ b by omega) hbl
  rcases hbk with e | e
  · omega
  · omega
theorem cpt_mem {l : List Int} {x : Int} : x ∈ cpt l ↔ x ∈ l := by
  rw [cpt_eq, List.mem_map]
  constructor
  · rintro ⟨j, hj, rfl⟩
    have hj' : j < l.length := by
      have := (List.mem_filter.1 hj).1
      simpa using this
    simp [hj']
  · intro hx
    -- the first place that holds x
    have key : ∀ n, n ≤ l.length → (∃ j, j < n ∧ l.getD j 0 = x) → ∃ j, j < l.length ∧ l.getD j 0 = x ∧ (j = 0 ∨ l.getD (j - 1) 0 ≠ x) := by
      intro n
      induction n with
      | zero => rintro _ ⟨j, hj, _⟩; omega
      | succ n ih =>
        rintro hn ⟨j, hj, e⟩
        by_cases c : ∃ j, j < n ∧ l.getD j 0 = x
        · exact ih (by omega) c
        · have hjn : j = n := by
            by_cases e2 : j < n
            · exact absurd ⟨j, e2, e⟩ c
            · omega
          subst hjn
          refine ⟨j, by omega, e, ?_⟩
          by_cases e3 : j = 0
          · exact .inl e3
          · exact .inr (fun h => c ⟨j - 1, by omega, h⟩)
    obtain ⟨i, hi, e⟩ := List.getElem_of_mem hx
    obtain ⟨j, h1, h2, h3⟩ := key l.length (Nat.le_refl _) ⟨i, hi, by simp [hi, e]⟩
    refine ⟨j, List.mem_filter.2 ⟨by simpa using h1, decide_eq_true ?_⟩, h2⟩
    rcases h3 with h3 | h3
    · exact .inl h3
    · exact .inr (by rw [h2]; exact fun h => h3 h.symm)
theorem mem_ints2 {l : List Nat} {x : Int} : x ∈ ints l ↔ ∃ n, n ∈ l ∧ x = (n : Int) := by
  unfold ints
  rw [List.mem_map]
  constructor
  · rintro ⟨n, h, rfl⟩; exact ⟨n, h, rfl⟩
  · rintro ⟨n, h, rfl⟩; exact ⟨n, h, rfl⟩
/-- sorted, without doubles: all sets that are in the list -/
theorem cpt_srt {m : Nat} {l : List Nat} (h : ∀ s, s ∈ l → s < bit m) : cpt (srt (ints l)) = ints (those m (fun s => decide (s ∈ l))) := by
  refine pw_ext (cpt_pw (srt_pw _)) (those_pw _ _) (fun x => ?_)
  rw [cpt_mem, srt_mem, mem_ints2, mem_ints2]
  constructor
  · rintro ⟨n, h1, e⟩; exact ⟨n, mem_those.2 ⟨h n h1, by simpa using h1⟩, e⟩
  · rintro ⟨n, h1, e⟩; exact ⟨n, by simpa using (mem_those.1 h1).2, e⟩

end Go.Proofs.Ytnhpefcjgaimeaa
