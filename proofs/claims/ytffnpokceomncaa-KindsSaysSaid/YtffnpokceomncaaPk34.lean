
/-
  slices.Sort, Clone, Compact at []int: the shelf's contracts at this program (printed by lay-shelf.mjs and lay-plain.mjs; numbers by name, so that it serves any seat).
  Rising lists, plainly: a rising list is told by its members; a sorted list without its doubles is the list of all sets that are in it.
  slices.Sort, Compact, Clone at lists of numbers, over rows of the call's own.
-/
import Derived.Shelf.Sort.Plain
import Derived.Ground.Names2Prog
import Derived.Shelf.Slices.Clone
import Derived.Shelf.Slices.CompactI
import Derived.Shelf.Slices.In.SortNone
import Derived.Test.YtffnpokceomncaaProg
import Derived.Test.YtffnpokceomncaaPk02
import Derived.Lib.SlicesCompact
import Derived.Sort.OwnSortedInts
namespace Go.Proofs
open Go.Shelf
def Try.laysNm215_ren : Go.Shelf.Ren := ⟨fun | 15 => 57 | n => n, fun | 22 => 35 | 3 => 3 | 4 => 4 | n => n, fun | n => n⟩
theorem Try.laysNm215 : Go.Proofs.Lays2.n15 Try.prog Try.laysNm215_ren := {
  mixed := by kernel_rfl
  f15 := Try.func57.trans (congrArg some (by kernel_rfl))
  t3 := Try.underlying3
  a3 := Try.isAgg3
  z3 := Try.sizeOf3
  v3 := Try.zeroValue3
  t4 := Try.underlying4
  a4 := Try.isAgg4
  z4 := Try.sizeOf4
  v4 := Try.zeroValue4
  t22 := Try.underlying35
  a22 := Try.isAgg35
  z22 := Try.sizeOf35
  v22 := Try.zeroValue35
  i3 := by kernel_rfl }
open Go.RowKit Go.Lib in
theorem Try.slices_Clone_int (b off n c : Nat) (zs : List Int) (w : World) (hz : n ≤ zs.length) (hbig : n * 8 ≤ 140737488355328) (hc : ∀ j, j < zs.length → w.cell? ⟨b, off + j, none⟩ = some (.int .i64 (zs.getD j 0))) :
    Calls Try.prog 57 #[.slice (some ⟨b, off, none⟩) n c] w fun e w' => ∃ v', e = .returned v' ∧ w'.ownsRow w.heap.size 3 1 v' n ((zs.take n).map (Value.int .i64)) ∧ v' ≠ .slice none 0 0 ∧ Below w.heap.size w w' := Any.slices_Clone_int Try.laysNm215 b off n c zs w hz hbig hc
open Go.RowKit Go.Lib in
theorem Try.slices_Clone_int_nil (n c : Nat) (w : World) :
    Calls Try.prog 57 #[.slice none n c] w fun e w' => e = .returned (.slice none 0 0) ∧ w' = w := Any.slices_Clone_int_nil Try.laysNm215 n c w
open Go.RowKit Go.Lib in
theorem Try.slices_Clone_int_zero (a : Addr) (c : Nat) (w : World) :
    Calls Try.prog 57 #[.slice (some a) 0 c] w fun e w' => ∃ v', e = .returned v' ∧ w'.ownsRow w.heap.size 3 1 v' 0 [] ∧ v' ≠ .slice none 0 0 ∧ Below w.heap.size w w' := Any.slices_Clone_int_zero Try.laysNm215 a c w
end Go.Proofs

namespace Go.Proofs.Ytffnpokceomncaa
set_option linter.unusedVariables false

theorem pw_ext : ∀ {l1 l2 : List Int}, l1.Pairwise (· < ·) → l2.Pairwise (· < ·) → (∀ x, x ∈ l1 ↔ x ∈ l2) → l1 = l2
  | [], [], _, _, _ => rfl
  | [], b :: s, _, _, h => by have := (h b).2 List.mem_cons_self; cases this
  | a :: t, [], _, _, h => by have := (h a).1 List.mem_cons_self; cases this
  | a :: t, b :: s, h1, h2, h => by
    rw [List.pairwise_cons] at h1 h2
    have hab : a = b := by
      rcases List.mem_cons.1 ((h a).1 List.mem_cons_self) with e | e
      · exact e
      · rcases List.mem_cons.1 ((h b).2 List.mem_cons_self) with g | g
        · exact g.symm
        · have := h2.1 a e
          have := h1.1 b g
          omega
    subst hab
    have ht : t = s := pw_ext h1.2 h2.2 (fun x => by
      constructor
      · intro hx
        rcases List.mem_cons.1 ((h x).1 (List.mem_cons_of_mem _ hx)) with e | e
        · have := h1.1 x hx; omega
        · exact e
      · intro hx
        rcases List.mem_cons.1 ((h x).2 (List.mem_cons_of_mem _ hx)) with e | e
        · have := h2.1 x hx; omega
        · exact e)
    rw [ht]
theorem those_pw (m : Nat) (p : Nat → Bool) : (ints (those m p)).Pairwise (· < ·) := by
  unfold ints those
  rw [List.pairwise_map]
  refine (List.Pairwise.filter p List.pairwise_lt_range).imp ?_
  intro a b h
  omega
/-- sorted, as slices.Sort has it -/
def srt (l : List Int) : List Int := l.mergeSort fun x y => decide (x ≤ y)
theorem srt_len (l : List Int) : (srt l).length = l.length := List.length_mergeSort _
theorem srt_mem {l : List Int} {x : Int} : x ∈ srt l ↔ x ∈ l := List.mem_mergeSort
theorem srt_pw (l : List Int) : (srt l).Pairwise (· ≤ ·) := by
  have h := List.pairwise_mergeSort (le := fun x y : Int => decide (x ≤ y)) (fun a b c h1 h2 => by simp at *; omega) (fun a b => by simp; omega) l
  exact h.imp (fun h => by simpa using h)
/-- without doubles, as slices.Compact has it -/
def cpt (l : List Int) : List Int := Lib.compact l
theorem pw_get {l : List Int} (h : l.Pairwise (· ≤ ·)) {i j : Nat} (hij : i ≤ j) (hj : j < l.length) : l.getD i 0 ≤ l.getD j 0 := by
  by_cases e : i = j
  · subst e; exact Int.le_refl _
  · have := List.pairwise_iff_getElem.1 h i j (by omega) hj (by omega)
    have h1 : l.getD i 0 = l[i] := by simp [show i < l.length by omega]
    have h2 : l.getD j 0 = l[j] := by simp [hj]
    rw [h1, h2]; exact this
theorem arr_get (l : List Int) {i : Nat} (h : i < l.length) : l.toArray[i]! = l.getD i 0 := by
  simp [h]
theorem cpt_eq (l : List Int) : cpt l = ((List.range l.length).filter (fun j => decide (j = 0 ∨ l.getD j 0 ≠ l.getD (j - 1) 0))).map (fun j => l.getD j 0) := by
  unfold cpt Lib.compact Lib.compactUpTo
  have h1 : (List.range l.length).filter (Lib.keeps l.toArray) = (List.range l.length).filter (fun j => decide (j = 0 ∨ l.getD j 0 ≠ l.getD (j - 1) 0)) := List.filter_congr (fun j hj => by
    have hj' : j < l.length := by simpa using hj
    unfold Lib.keeps
    rw [arr_get l hj', arr_get l (show j - 1 < l.length by omega)])
  rw [h1]
  refine List.map_congr_left (fun j hj => ?_)
  have hj' : j < l.length := by
    have := (List.mem_filter.1 hj).1
    simpa using this
  exact arr_get l hj'
theorem cpt_pw {l : List Int} (h : l.Pairwise (· ≤ ·)) : (cpt l).Pairwise (· < ·) := by
  rw [cpt_eq, List.pairwise_map]
  have hp : ((List.range l.length).filter (fun j => decide (j = 0 ∨ l.getD j 0 ≠ l.getD (j - 1) 0))).Pairwise (· < ·) := List.Pairwise.filter _ List.pairwise_lt_range
  refine List.Pairwise.imp_of_mem (fun {a b} ha hb hab => ?_) hp
  have hb1 := List.mem_filter.1 hb
  have hbl : b < l.length := by simpa using hb1.1
  have hbk : b = 0 ∨ l.getD b 0 ≠ l.getD (b - 1) 0 := of_decide_eq_true hb1.2
  have h1 := pw_get h (show a ≤ b - 1 by omega) (by omega)
  have h2 := pw_get h (show b - 1 ≤ b by omega) hbl
  rcases hbk with e | e
  · omega
  · omega
theorem cpt_mem {l : List Int} {x : Int} : x ∈ cpt l ↔ x ∈ l := by
  rw [cpt_eq, List.mem_map]
  constructor
  · rintro ⟨j, hj, rfl⟩
    have hj' : j < l.length := by
      have := (List.mem_filter.1 hj).1
      simpa using this
    simp [hj']
  · intro hx
    -- the first place that holds x
    have key : ∀ n, n ≤ l.length → (∃ j, j < n ∧ l.getD j 0 = x) → ∃ j, j < l.length ∧ l.getD j 0 = x ∧ (j = 0 ∨ l.getD (j - 1) 0 ≠ x) := by
      intro n
      induction n with
      | zero => rintro _ ⟨j, hj, _⟩; omega
      | succ n ih =>
        rintro hn ⟨j, hj, e⟩
        by_cases c : ∃ j, j < n ∧ l.getD j 0 = x
        · exact ih (by omega) c
        · have hjn : j = n := by
            by_cases e2 : j < n
            · exact absurd ⟨j, e2, e⟩ c
            · omega
          subst hjn
          refine ⟨j, by omega, e, ?_⟩
          by_cases e3 : j = 0
          · exact .inl e3
          · exact .inr (fun h => c ⟨j - 1, by omega, h⟩)
    obtain ⟨i, hi, e⟩ := List.getElem_of_mem hx
    obtain ⟨j, h1, h2, h3⟩ := key l.length (Nat.le_refl _) ⟨i, hi, by simp [hi, e]⟩
    refine ⟨j, List.mem_filter.2 ⟨by simpa using h1, decide_eq_true ?_⟩, h2⟩
    rcases h3 with h3 | h3
    · exact .inl h3
    · exact .inr (by rw [h2]; exact fun h => h3 h.symm)
theorem mem_ints2 {l : List Nat} {x : Int} : x ∈ ints l ↔ ∃ n, n ∈ l ∧ x = (n : Int) := by
  unfold ints
  rw [List.mem_map]
  constructor
  · rintro ⟨n, h, rfl⟩; exact ⟨n, h, rfl⟩
  · rintro ⟨n, h, rfl⟩; exact ⟨n, h, rfl⟩
/-- sorted, without doubles: all sets that are in the list -/
theorem cpt_srt {m : Nat} {l : List Nat} (h : ∀ s, s ∈ l → s < bit m) : cpt (srt (ints l)) = ints (those m (fun s => decide (s ∈ l))) := by
  refine pw_ext (cpt_pw (srt_pw _)) (those_pw _ _) (fun x => ?_)
  rw [cpt_mem, srt_mem, mem_ints2, mem_ints2]
  constructor
  · rintro ⟨n, h1, e⟩; exact ⟨n, mem_those.2 ⟨h n h1, by simpa using h1⟩, e⟩
  · rintro ⟨n, h1, e⟩; exact ⟨n, by simpa using (mem_those.1 h1).2, e⟩

end Go.Proofs.Ytffnpokceomncaa

namespace Go.Proofs.Ytffnpokceomncaa
open Go.RowKit Go.Sort
set_option linter.unusedVariables false

/-- what a row of the call's own is -/
theorem Own.open {B : Nat} {w : World} {ad : Option Addr} {cap : Nat} {xs : List Int} (h : Own B w ad cap xs) : (ad = none ∧ cap = 0 ∧ xs = []) ∨ ∃ g cur, ad = some ⟨g, 0, none⟩ ∧ B ≤ g ∧ w.heap[g]? = some (.cells cur 3 (0, 0)) ∧ xs.length ≤ cap ∧ cap ≤ maxLen ∧ cur.size = cap * 1 ∧ cur.toList.take (xs.length * 1) = xs.map (Value.int .i64) := by
  rcases h.2 with ⟨e, hn⟩ | ⟨g, c, cur, e, h1, h2, h3, h4, h5, h6⟩
  · left
    simp only [Value.slice.injEq] at e
    exact ⟨e.1, e.2.2, List.length_eq_zero_iff.1 hn⟩
  · right
    simp only [Value.slice.injEq] at e
    obtain ⟨e1, _, e3⟩ := e
    subst e3
    exact ⟨g, cur, e1, h1, h2, h3, h4, h5, h6⟩
theorem Own.first {B : Nat} {w : World} {ad : Option Addr} {cap : Nat} {xs ys : List Int} (h : Own B w ad cap (xs ++ ys)) : Own B w ad cap xs := by
  rcases h.open with ⟨rfl, rfl, e⟩ | ⟨g, cur, rfl, h1, h2, h3, h4, h5, h6⟩
  · have : xs = [] := by
      cases xs with
      | nil => rfl
      | cons a t => cases e
    subst this
    exact Own.nil _ _
  · have hlen : xs.length ≤ (xs ++ ys).length := by simp
    refine ⟨by simp, .inr ⟨g, cap, cur, rfl, h1, h2, by omega, h4, h5, ?_⟩⟩
    have h7 := congrArg (List.take xs.length) h6
    rw [List.take_take, List.map_append] at h7
    rw [Nat.mul_one]
    rw [Nat.mul_one, Nat.min_eq_left hlen] at h7
    rw [h7, List.take_append_of_le_length (by simp)]
    exact List.take_of_length_le (by simp)

theorem cpt_len (xs : List Int) : (cpt xs).length ≤ xs.length := by
  rw [cpt_eq, List.length_map]
  have := List.length_filter_le (fun j => decide (j = 0 ∨ xs.getD j 0 ≠ xs.getD (j - 1) 0)) (List.range xs.length)
  simpa using this
theorem c_clone {B : Nat} {W : World} (u : Later B W) (xs : List Int) (a : Option Addr) (cap : Nat) (h : IntsAt B W a xs) (hlen : xs.length ≤ 17592186044416) :
    Calls Try.prog 57 #[.slice a xs.length cap] u.val (RetOwn B W xs) := by
  cases a with
  | none =>
    have : xs = [] := by
      by_cases e : xs = []
      · exact e
      · obtain ⟨b, off, e2, _⟩ := h e; cases e2
    subst this
    refine (Try.slices_Clone_int_nil 0 cap u.val).mono ?_
    rintro e w ⟨rfl, rfl⟩
    exact RetP.mk u ⟨none, 0, rfl, Own.nil _ _⟩
  | some p =>
    have fin : ∀ (v' : Value) (w' : World), w'.ownsRow u.val.heap.size 3 1 v' xs.length (xs.map (Value.int .i64)) → Below u.val.heap.size u.val w' → RetOwn B W xs (.returned v') w' := by
      intro v' w' ho hb
      have hsz : u.val.heap.size ≤ w'.heap.size := hb.size
      refine ⟨v', rfl, ?_, ⟨w', u.below.trans (hb.mono u.size), Nat.le_trans u.size hsz⟩, rfl⟩
      have ho' := ho
      rcases ho.2 with ⟨e, hn⟩ | ⟨g, c, cur, e, h1, h2, h3, h4, h5, h6⟩
      · subst e
        have : xs = [] := List.length_eq_zero_iff.1 hn
        subst this
        exact ⟨none, 0, rfl, Own.nil _ _⟩
      · subst e
        exact ⟨some ⟨g, 0, none⟩, c, rfl, ho.1, .inr ⟨g, c, cur, rfl, Nat.le_trans u.size h1, h2, h3, h4, h5, h6⟩⟩
    by_cases hx : xs = []
    · subst hx
      refine (Try.slices_Clone_int_zero p cap u.val).mono ?_
      rintro e w ⟨v', rfl, ho, _, hb⟩
      exact fin v' w ho hb
    · obtain ⟨b, off, e2, hbB, hc⟩ := h hx
      simp only [Option.some.injEq] at e2
      subst e2
      refine (Try.slices_Clone_int b off xs.length cap xs u.val (Nat.le_refl _) (by omega) (fun j hj => by rw [u.cell (a := ⟨b, off + j, none⟩) hbB]; exact hc j hj)).mono ?_
      rintro e w ⟨v', rfl, ho, _, hb⟩
      rw [List.take_length] at ho
      exact fin v' w ho hb

end Go.Proofs.Ytffnpokceomncaa
