
/-
  slices.Sort, Clone, Compact at []int: the shelf's contracts at this program (printed by lay-shelf.mjs and lay-plain.mjs; numbers by name, so that it serves any seat).
  Rising lists, plainly: a rising list is told by its members; a sorted list without its doubles is the list of all sets that are in it.
  slices.Sort, Compact, Clone at lists of numbers, over rows of the call's own.
-/
import Derived.Shelf.Sort.Plain
import Derived.Ground.Names2Prog
import Derived.Shelf.Slices.Clone
import Derived.Shelf.Slices.CompactI
import Derived.Shelf.Slices.In.SortNone
import Derived.Test.YtdcdhdlklppalaaProg
import Derived.Test.YtdcdhdlklppalaaPk02
import Derived.Lib.SlicesCompact
import Derived.Sort.OwnSortedInts
namespace Go.Proofs
open Go.Shelf
def Try.lays189_ren : Go.Shelf.Ren := ⟨fun | 189 => 31 | 125 => 52 | 257 => 51 | 128 => 71 | 129 => 72 | 294 => 62 | 295 => 63 | 296 => 64 | 297 => 65 | 298 => 66 | 299 => 67 | 216 => 68 | 300 => 69 | 301 => 70 | 328 => 80 | 329 => 81 | 330 => 82 | 331 => 83 | 332 => 84 | 215 => 61 | 343 => 92 | n => n, fun | 28 => 22 | 3 => 3 | 46 => 69 | 0 => 0 | 51 => 82 | 53 => 84 | 4 => 4 | 183 => 75 | 182 => 74 | 131 => 79 | 5 => 5 | 9 => 9 | 218 => 87 | 222 => 91 | 228 => 93 | 229 => 94 | n => n, fun | n => n⟩
theorem Try.lays189 : Go.Proofs.Lays.n189 Try.prog Try.lays189_ren := {
  mixed := by kernel_rfl
  f125 := Try.func52.trans (congrArg some (by kernel_rfl))
  f128 := Try.func71.trans (congrArg some (by kernel_rfl))
  f129 := Try.func72.trans (congrArg some (by kernel_rfl))
  f189 := Try.func31.trans (congrArg some (by kernel_rfl))
  f215 := Try.func61.trans (congrArg some (by kernel_rfl))
  f216 := Try.func68.trans (congrArg some (by kernel_rfl))
  f257 := Try.func51.trans (congrArg some (by kernel_rfl))
  f294 := Try.func62.trans (congrArg some (by kernel_rfl))
  f295 := Try.func63.trans (congrArg some (by kernel_rfl))
  f296 := Try.func64.trans (congrArg some (by kernel_rfl))
  f297 := Try.func65.trans (congrArg some (by kernel_rfl))
  f298 := Try.func66.trans (congrArg some (by kernel_rfl))
  f299 := Try.func67.trans (congrArg some (by kernel_rfl))
  f300 := Try.func69.trans (congrArg some (by kernel_rfl))
  f301 := Try.func70.trans (congrArg some (by kernel_rfl))
  f328 := Try.func80.trans (congrArg some (by kernel_rfl))
  f329 := Try.func81.trans (congrArg some (by kernel_rfl))
  f330 := Try.func82.trans (congrArg some (by kernel_rfl))
  f331 := Try.func83.trans (congrArg some (by kernel_rfl))
  f332 := Try.func84.trans (congrArg some (by kernel_rfl))
  f343 := Try.func92.trans (congrArg some (by kernel_rfl))
  t0 := Try.underlying0
  a0 := Try.isAgg0
  z0 := Try.sizeOf0
  v0 := Try.zeroValue0
  t3 := Try.underlying3
  a3 := Try.isAgg3
  z3 := Try.sizeOf3
  v3 := Try.zeroValue3
  t4 := Try.underlying4
  a4 := Try.isAgg4
  z4 := Try.sizeOf4
  v4 := Try.zeroValue4
  t5 := Try.underlying5
  a5 := Try.isAgg5
  z5 := Try.sizeOf5
  v5 := Try.zeroValue5
  t9 := Try.underlying9
  a9 := Try.isAgg9
  z9 := Try.sizeOf9
  v9 := Try.zeroValue9
  t28 := Try.underlying22
  a28 := Try.isAgg22
  z28 := Try.sizeOf22
  v28 := Try.zeroValue22
  t46 := Try.underlying69
  a46 := Try.isAgg69
  z46 := Try.sizeOf69
  v46 := Try.zeroValue69
  t51 := Try.underlying82
  a51 := Try.isAgg82
  z51 := Try.sizeOf82
  v51 := Try.zeroValue82
  t53 := Try.underlying84
  a53 := Try.isAgg84
  z53 := Try.sizeOf84
  v53 := Try.zeroValue84
  t131 := Try.underlying79
  a131 := Try.isAgg79
  z131 := Try.sizeOf79
  v131 := Try.zeroValue79
  t182 := Try.underlying74
  a182 := Try.isAgg74
  z182 := Try.sizeOf74
  v182 := Try.zeroValue74
  t183 := Try.underlying75
  a183 := Try.isAgg75
  z183 := Try.sizeOf75
  v183 := Try.zeroValue75
  t218 := Try.underlying87
  a218 := Try.isAgg87
  z218 := Try.sizeOf87
  v218 := Try.zeroValue87
  t222 := Try.underlying91
  a222 := Try.isAgg91
  z222 := Try.sizeOf91
  v222 := Try.zeroValue91
  t228 := Try.underlying93
  a228 := Try.isAgg93
  z228 := Try.sizeOf93
  v228 := Try.zeroValue93
  t229 := Try.underlying94
  a229 := Try.isAgg94
  z229 := Try.sizeOf94
  v229 := Try.zeroValue94 }
open Go.Sort Go.RowKit in
theorem Try.slices_Sort_int (blk off cap : Nat) (zs : List Int) (w : World) (hH : Holds (Value.int .i64) w blk off zs.toArray) (hblk : blk < w.heap.size) (hsz : zs.length < 4611686018427387904) :
    Calls Try.prog 31 #[.slice (some ⟨blk, off, none⟩) zs.length cap] w fun e w' =>
      e = .returned (.tuple #[]) ∧ ∃ n os, w' = grow (putRow (Value.int .i64) (Sort.ahead w n) blk off (zs.mergeSort fun x y => decide (x ≤ y)).toArray) os := Any.slices_Sort_int Try.lays189 blk off cap zs w hH hblk hsz
def Try.laysNm215_ren : Go.Shelf.Ren := ⟨fun | 15 => 38 | n => n, fun | 22 => 22 | 3 => 3 | 4 => 4 | n => n, fun | n => n⟩
theorem Try.laysNm215 : Go.Proofs.Lays2.n15 Try.prog Try.laysNm215_ren := {
  mixed := by kernel_rfl
  f15 := Try.func38.trans (congrArg some (by kernel_rfl))
  t3 := Try.underlying3
  a3 := Try.isAgg3
  z3 := Try.sizeOf3
  v3 := Try.zeroValue3
  t4 := Try.underlying4
  a4 := Try.isAgg4
  z4 := Try.sizeOf4
  v4 := Try.zeroValue4
  t22 := Try.underlying22
  a22 := Try.isAgg22
  z22 := Try.sizeOf22
  v22 := Try.zeroValue22
  i3 := by kernel_rfl }
open Go.RowKit Go.Lib in
theorem Try.slices_Clone_int (b off n c : Nat) (zs : List Int) (w : World) (hz : n ≤ zs.length) (hbig : n * 8 ≤ 140737488355328) (hc : ∀ j, j < zs.length → w.cell? ⟨b, off + j, none⟩ = some (.int .i64 (zs.getD j 0))) :
    Calls Try.prog 38 #[.slice (some ⟨b, off, none⟩) n c] w fun e w' => ∃ v', e = .returned v' ∧ w'.ownsRow w.heap.size 3 1 v' n ((zs.take n).map (Value.int .i64)) ∧ v' ≠ .slice none 0 0 ∧ Below w.heap.size w w' := Any.slices_Clone_int Try.laysNm215 b off n c zs w hz hbig hc
open Go.RowKit Go.Lib in
theorem Try.slices_Clone_int_nil (n c : Nat) (w : World) :
    Calls Try.prog 38 #[.slice none n c] w fun e w' => e = .returned (.slice none 0 0) ∧ w' = w := Any.slices_Clone_int_nil Try.laysNm215 n c w
open Go.RowKit Go.Lib in
theorem Try.slices_Clone_int_zero (a : Addr) (c : Nat) (w : World) :
    Calls Try.prog 38 #[.slice (some a) 0 c] w fun e w' => ∃ v', e = .returned v' ∧ w'.ownsRow w.heap.size 3 1 v' 0 [] ∧ v' ≠ .slice none 0 0 ∧ Below w.heap.size w w' := Any.slices_Clone_int_zero Try.laysNm215 a c w
def Try.laysNm220_ren : Go.Shelf.Ren := ⟨fun | 20 => 41 | n => n, fun | 22 => 22 | 3 => 3 | 4 => 4 | 0 => 0 | n => n, fun | n => n⟩
theorem Try.laysNm220 : Go.Proofs.Lays2.n20 Try.prog Try.laysNm220_ren := {
  mixed := by kernel_rfl
  f20 := Try.func41.trans (congrArg some (by kernel_rfl))
  t0 := Try.underlying0
  a0 := Try.isAgg0
  z0 := Try.sizeOf0
  v0 := Try.zeroValue0
  t3 := Try.underlying3
  a3 := Try.isAgg3
  z3 := Try.sizeOf3
  v3 := Try.zeroValue3
  t4 := Try.underlying4
  a4 := Try.isAgg4
  z4 := Try.sizeOf4
  v4 := Try.zeroValue4
  t22 := Try.underlying22
  a22 := Try.isAgg22
  z22 := Try.sizeOf22
  v22 := Try.zeroValue22
  i3 := by kernel_rfl }
open Go.RowKit Go.Lib Go.Sort in
theorem Try.slices_Compact_int_arr (blk off cap : Nat) (d : Array Int) (w : World) (hH : Holds encI w blk off d) (hsz : d.size ≤ 9223372036854775807) (hcap : d.size ≤ cap) :
    Calls Try.prog 41 #[.slice (some ⟨blk, off, none⟩) d.size cap] w fun e w' => e = .returned (.slice (some ⟨blk, off, none⟩) (compactUpTo d d.size).length cap) ∧ ∃ q, w' = putRow encI (Sort.ahead w q) blk off (compactUpTo d d.size ++ List.replicate (d.size - (compactUpTo d d.size).length) 0).toArray := Any.slices_Compact_int_arr Try.laysNm220 blk off cap d w hH hsz hcap
open Go.RowKit Go.Lib Go.Sort in
theorem Try.slices_Compact_int (blk off cap : Nat) (zs : List Int) (w : World) (hH : Holds (Value.int .i64) w blk off zs.toArray) (hsz : zs.length ≤ 9223372036854775807) (hcap : zs.length ≤ cap) :
    Calls Try.prog 41 #[.slice (some ⟨blk, off, none⟩) zs.length cap] w fun e w' => e = .returned (.slice (some ⟨blk, off, none⟩) (Lib.compact zs).length cap) ∧ ∃ q, w' = putRow (Value.int .i64) (Sort.ahead w q) blk off (Lib.compact zs ++ List.replicate (zs.length - (Lib.compact zs).length) 0).toArray := Any.slices_Compact_int Try.laysNm220 blk off cap zs w hH hsz hcap
open Go.RowKit Go.Lib Go.Sort in
theorem Try.slices_Compact_int_empty (a : Option Addr) (cap : Nat) (w : World) :
    Calls Try.prog 41 #[.slice a 0 cap] w fun e w' => e = .returned (.slice a 0 cap) ∧ w' = w := Any.slices_Compact_int_empty Try.laysNm220 a cap w
open Go.RowKit Go.Sort in
theorem Try.slices_Sort_int_none (p : Option Addr) (cap : Nat) (w : World) :
    Calls Try.prog 31 #[.slice p 0 cap] w fun e w' => e = .returned (.tuple #[]) ∧ w' = w := Any.slices_Sort_int_none Try.lays189 p cap w
end Go.Proofs

namespace Go.Proofs.Ytdcdhdlklppalaa
set_option linter.unusedVariables false

theorem pw_ext : ∀ {l1 l2 : List Int}, l1.Pairwise (· < ·) → l2.Pairwise (· < ·) → (∀ x, x ∈ l1 ↔ x ∈ l2) → l1 = l2
  | [], [], _, _, _ => rfl
  | [], b :: s, _, _, h => by have := (h b).2 List.mem_cons_self; cases this
  | a :: t, [], _, _, h => by have := (h a).1 List.mem_cons_self; cases this
  | a :: t, b :: s, h1, h2, h => by
    rw [List.pairwise_cons] at h1 h2
    have hab : a = b := by
      rcases List.mem_cons.1 ((h a).1 List.mem_cons_self) with e | e
      · exact e
      · rcases List.mem_cons.1 ((h b).2 List.mem_cons_self) with g | g
        · exact g.symm
        · have := h2.1 a e
          have := h1.1 b g
          omega
    subst hab
    have ht : t = s := pw_ext h1.2 h2.2 (fun x => by
      constructor
      · intro hx
        rcases List.mem_cons.1 ((h x).1 (List.mem_cons_of_mem _ hx)) with e | e
        · have := h1.1 x hx; omega
        · exact e
      · intro hx
        rcases List.mem_cons.1 ((h x).2 (List.mem_cons_of_mem _ hx)) with e | e
        · have := h2.1 x hx; omega
        · exact e)
    rw [ht]
theorem those_pw (m : Nat) (p : Nat → Bool) : (ints (those m p)).Pairwise (· < ·) := by
  unfold ints those
  rw [List.pairwise_map]
  refine (List.Pairwise.filter p List.pairwise_lt_range).imp ?_
  intro a b h
  omega
/-- sorted, as slices.Sort has it -/
def srt (l : List Int) : List Int := l.mergeSort fun x y => decide (x ≤ y)
theorem srt_len (l : List Int) : (srt l).length = l.length := List.length_mergeSort _
theorem srt_mem {l : List Int} {x : Int} : x ∈ srt l ↔ x ∈ l := List.mem_mergeSort
theorem srt_pw (l : List Int) : (srt l).Pairwise (· ≤ ·) := by
  have h := List.pairwise_mergeSort (le := fun x y : Int => decide (x ≤ y)) (fun a b c h1 h2 => by simp at *; omega) (fun a b => by simp; omega) l
  exact h.imp (fun h => by simpa using h)
/-- without doubles, as slices.Compact has it -/
def cpt (l : List Int) : List Int := Lib.compact l
theorem pw_get {l : List Int} (h : l.Pairwise (· ≤ ·)) {i j : Nat} (hij : i ≤ j) (hj : j < l.length) : l.getD i 0 ≤ l.getD j 0 := by
  by_cases e : i = j
  · subst e; exact Int.le_refl _
  · have := List.pairwise_iff_getElem.1 h i j (by omega) hj (by omega)
    have h1 : l.getD i 0 = l[i] := by simp [show i < l.length by omega]
    have h2 : l.getD j 0 = l[j] := by simp [hj]
    rw [h1, h2]; exact this
theorem arr_get (l : List Int) {i : Nat} (h : i < l.length) : l.toArray[i]! = l.getD i 0 := by
  simp [h]
theorem cpt_eq (l : List Int) : cpt l = ((List.range l.length).filter (fun j => decide (j = 0 ∨ l.getD j 0 ≠ l.getD (j - 1) 0))).map (fun j => l.getD j 0) := by
  unfold cpt Lib.compact Lib.compactUpTo
  have h1 : (List.range l.length).filter (Lib.keeps l.toArray) = (List.range l.length).filter (fun j => decide (j = 0 ∨ l.getD j 0 ≠ l.getD (j - 1) 0)) := List.filter_congr (fun j hj => by
    have hj' : j < l.length := by simpa using hj
    unfold Lib.keeps
    rw [arr_get l hj', arr_get l (show j - 1 < l.length by omega)])
  rw [h1]
  refine List.map_congr_left (fun j hj => ?_)
  have hj' : j < l.length := by
    have := (List.mem_filter.1 hj).1
    simpa using this
  exact arr_get l hj'
theorem cpt_pw {l : List Int} (h : l.Pairwise (· ≤ ·)) : (cpt l).Pairwise (· < ·) := by
  rw [cpt_eq, List.pairwise_map]
  have hp : ((List.range l.length).filter (fun j => decide (j = 0 ∨ l.getD j 0 ≠ l.getD (j - 1) 0))).Pairwise (· < ·) := List.Pairwise.filter _ List.pairwise_lt_range
  refine List.Pairwise.imp_of_mem (fun {a b} ha hb hab => ?_) hp
  have hb1 := List.mem_filter.1 hb
  have hbl : b < l.length := by simpa using hb1.1
  have hbk : b = 0 ∨ l.getD b 0 ≠ l.getD (b - 1) 0 := of_decide_eq_true hb1.2
  have h1 := pw_get h (show a ≤ b - 1 by omega) (by omega)
  have h2 := pw_get h (show b - 1 ≤ b by omega) hbl
  rcases hbk with e | e
  · omega
  · omega
theorem cpt_mem {l : List Int} {x : Int} : x ∈ cpt l ↔ x ∈ l := by
  rw [cpt_eq, List.mem_map]
  constructor
  · rintro ⟨j, hj, rfl⟩
    have hj' : j < l.length := by
      have := (List.mem_filter.1 hj).1
      simpa using this
    simp [hj']
  · intro hx
    -- the first place that holds x
    have key : ∀ n, n ≤ l.length → (∃ j, j < n ∧ l.getD j 0 = x) → ∃ j, j < l.length ∧ l.getD j 0 = x ∧ (j = 0 ∨ l.getD (j - 1) 0 ≠ x) := by
      intro n
      induction n with
      | zero => rintro _ ⟨j, hj, _⟩; omega
      | succ n ih =>
        rintro hn ⟨j, hj, e⟩
        by_cases c : ∃ j, j < n ∧ l.getD j 0 = x
        · exact ih (by omega) c
        · have hjn : j = n := by
            by_cases e2 : j < n
            · exact absurd ⟨j, e2, e⟩ c
            · omega
          subst hjn
          refine ⟨j, by omega, e, ?_⟩
          by_cases e3 : j = 0
          · exact .inl e3
          · exact .inr (fun h => c ⟨j - 1, by omega, h⟩)
    obtain ⟨i, hi, e⟩ := List.getElem_of_mem hx
    obtain ⟨j, h1, h2, h3⟩ := key l.length (Nat.le_refl _) ⟨i, hi, by simp [hi, e]⟩
    refine ⟨j, List.mem_filter.2 ⟨by simpa using h1, decide_eq_true ?_⟩, h2⟩
    rcases h3 with h3 | h3
    · exact .inl h3
    · exact .inr (by rw [h2]; exact fun h => h3 h.symm)
theorem mem_ints2 {l : List Nat} {x : Int} : x ∈ ints l ↔ ∃ n, n ∈ l ∧ x = (n : Int) := by
  unfold ints
  rw [List.mem_map]
  constructor
  · rintro ⟨n, h, rfl⟩; exact ⟨n, h, rfl⟩
  · rintro ⟨n, h, rfl⟩; exact ⟨n, h, rfl⟩
/-- sorted, without doubles: all sets that are in the list -/
theorem cpt_srt {m : Nat} {l : List Nat} (h : ∀ s, s ∈ l → s < bit m) : cpt (srt (ints l)) = ints (those m (fun s => decide (s ∈ l))) := by
  refine pw_ext (cpt_pw (srt_pw _)) (those_pw _ _) (fun x => ?_)
  rw [cpt_mem, srt_mem, mem_ints2, mem_ints2]
  constructor
  · rintro ⟨n, h1, e⟩; exact ⟨n, mem_those.2 ⟨h n h1, by simpa using h1⟩, e⟩
  · rintro ⟨n, h1, e⟩; exact ⟨n, by simpa using (mem_those.1 h1).2, e⟩

end Go.Proofs.Ytdcdhdlklppalaa

namespace Go.Proofs.Ytdcdhdlklppalaa
open Go.RowKit Go.Sort
set_option linter.unusedVariables false

/-- what a row of the call's own is -/
theorem Own.open {B : Nat} {w : World} {ad : Option Addr} {cap : Nat} {xs : List Int} (h : Own B w ad cap xs) : (ad = none ∧ cap = 0 ∧ xs = []) ∨ ∃ g cur, ad = some ⟨g, 0, none⟩ ∧ B ≤ g ∧ w.heap[g]? = some (.cells cur 3 (0, 0)) ∧ xs.length ≤ cap ∧ cap ≤ maxLen ∧ cur.size = cap * 1 ∧ cur.toList.take (xs.length * 1) = xs.map (Value.int .i64) := by
  rcases h.2 with ⟨e, hn⟩ | ⟨g, c, cur, e, h1, h2, h3, h4, h5, h6⟩
  · left
    simp only [Value.slice.injEq] at e
    exact ⟨e.1, e.2.2, List.length_eq_zero_iff.1 hn⟩
  · right
    simp only [Value.slice.injEq] at e
    obtain ⟨e1, _, e3⟩ := e
    subst e3
    exact ⟨g, cur, e1, h1, h2, h3, h4, h5, h6⟩
theorem Own.first {B : Nat} {w : World} {ad : Option Addr} {cap : Nat} {xs ys : List Int} (h : Own B w ad cap (xs ++ ys)) : Own B w ad cap xs := by
  rcases h.open with ⟨rfl, rfl, e⟩ | ⟨g, cur, rfl, h1, h2, h3, h4, h5, h6⟩
  · have : xs = [] := by
      cases xs with
      | nil => rfl
      | cons a t => cases e
    subst this
    exact Own.nil _ _
  · have hlen : xs.length ≤ (xs ++ ys).length := by simp
    refine ⟨by simp, .inr ⟨g, cap, cur, rfl, h1, h2, by omega, h4, h5, ?_⟩⟩
    have h7 := congrArg (List.take xs.length) h6
    rw [List.take_take, List.map_append] at h7
    rw [Nat.mul_one]
    rw [Nat.mul_one, Nat.min_eq_left hlen] at h7
    rw [h7, List.take_append_of_le_length (by simp)]
    exact List.take_of_length_le (by simp)

theorem c_sort {B : Nat} {W : World} (u : Later B W) (xs : List Int) (ad : Option Addr) (cap : Nat) (ho : Own B u.val ad cap xs) (hlen : xs.length ≤ 17592186044416) :
    Calls Try.prog 31 #[.slice ad xs.length cap] u.val (fun e w' => e = .returned (.tuple #[]) ∧ ∃ v : Later B W, w' = v.val ∧ Own B v.val ad cap (srt xs) ∧ (∀ k, k < u.val.heap.size → (∀ off, ad ≠ some ⟨k, off, none⟩) → v.val.heap[k]? = u.val.heap[k]?)) := by
  rcases ho.open with ⟨rfl, rfl, rfl⟩ | ⟨g, cur, rfl, h1, h2, h3, h4, h5, h6⟩
  · refine (Try.slices_Sort_int_none none 0 u.val).mono ?_
    rintro e w ⟨rfl, rfl⟩
    exact ⟨rfl, u, rfl, by have : srt [] = [] := by simp [srt]
                           rw [this]; exact Own.nil _ _, fun k hk _ => rfl⟩
  · have hH := holds_of_blockI (ss := xs) h2 (by simpa using h6)
    have hg : g < u.val.heap.size := (Array.getElem?_eq_some_iff.1 h2).1
    refine (Try.slices_Sort_int g 0 cap xs u.val hH hg (by omega)).mono ?_
    rintro e w ⟨rfl, n, os, rfl⟩
    have hgr := grownBy_sortedI (w := u.val) (g := g) (n := n) (os := os) (srt xs).toArray
    refine ⟨rfl, ⟨_, own_below u.below u.size ho hgr, Nat.le_trans u.size hgr.size⟩, rfl, ?_, fun k hk hne => hgr.block k hk (fun e => hne 0 (by cases e; rfl))⟩
    have := ownsRow_sortedI (n := n) (os := os) (ss := xs) (ts := srt xs) (srt_len xs) h1 h2 h3 h4 h5
    show World.ownsRow _ B 3 1 (.slice _ (srt xs).length cap) (srt xs).length _
    rw [srt_len]
    exact this

theorem cpt_len (xs : List Int) : (cpt xs).length ≤ xs.length := by
  rw [cpt_eq, List.length_map]
  have := List.length_filter_le (fun j => decide (j = 0 ∨ xs.getD j 0 ≠ xs.getD (j - 1) 0)) (List.range xs.length)
  simpa using this
theorem c_compact {B : Nat} {W : World} (u : Later B W) (xs : List Int) (ad : Option Addr) (cap : Nat) (ho : Own B u.val ad cap xs) :
    Calls Try.prog 41 #[.slice ad xs.length cap] u.val (fun e w' => e = .returned (.slice ad (cpt xs).length cap) ∧ ∃ v : Later B W, w' = v.val ∧ Own B v.val ad cap (cpt xs) ∧ (∀ k, k < u.val.heap.size → (∀ off, ad ≠ some ⟨k, off, none⟩) → v.val.heap[k]? = u.val.heap[k]?)) := by
  rcases ho.open with ⟨rfl, rfl, rfl⟩ | ⟨g, cur, rfl, h1, h2, h3, h4, h5, h6⟩
  · refine (Try.slices_Compact_int_empty none 0 u.val).mono ?_
    rintro e w ⟨rfl, rfl⟩
    exact ⟨rfl, u, rfl, Own.nil _ _, fun k hk _ => rfl⟩
  · have hH := holds_of_blockI (ss := xs) h2 (by simpa using h6)
    have hl := cpt_len xs
    refine (Try.slices_Compact_int g 0 cap xs u.val hH (by unfold maxLen at h4; omega) h3).mono ?_
    rintro e w ⟨rfl, q, rfl⟩
    have hgr := grownBy_sortedI (w := u.val) (g := g) (n := q) (os := #[]) (cpt xs ++ List.replicate (xs.length - (cpt xs).length) 0).toArray
    have hlen : (cpt xs ++ List.replicate (xs.length - (cpt xs).length) 0).length = xs.length := by simp; omega
    have hown := ownsRow_sortedI (n := q) (os := #[]) (ss := xs) (ts := cpt xs ++ List.replicate (xs.length - (cpt xs).length) 0) hlen h1 h2 h3 h4 h5
    have e0 : ∀ w : World, grow w #[] = w := fun w => by simp [grow]
    rw [e0] at hgr hown
    refine ⟨rfl, ⟨_, own_below u.below u.size ho hgr, Nat.le_trans u.size hgr.size⟩, rfl, ?_, fun k hk hne => hgr.block k hk (fun e => hne 0 (by cases e; rfl))⟩
    have h7 : Own B (putRow (Value.int .i64) (Sort.ahead u.val q) g 0 (cpt xs ++ List.replicate (xs.length - (cpt xs).length) 0).toArray) (some ⟨g, 0, none⟩) cap (cpt xs ++ List.replicate (xs.length - (cpt xs).length) 0) := by
      show World.ownsRow _ B 3 1 (.slice _ _ cap) _ _
      rw [hlen]
      exact hown
    exact h7.first

theorem c_clone {B : Nat} {W : World} (u : Later B W) (xs : List Int) (a : Option Addr) (cap : Nat) (h : IntsAt B W a xs) (hlen : xs.length ≤ 17592186044416) :
    Calls Try.prog 38 #[.slice a xs.length cap] u.val (RetOwn B W xs) := by
  cases a with
  | none =>
    have : xs = [] := by
      by_cases e : xs = []
      · exact e
      · obtain ⟨b, off, e2, _⟩ := h e; cases e2
    subst this
    refine (Try.slices_Clone_int_nil 0 cap u.val).mono ?_
    rintro e w ⟨rfl, rfl⟩
    exact RetP.mk u ⟨none, 0, rfl, Own.nil _ _⟩
  | some p =>
    have fin : ∀ (v' : Value) (w' : World), w'.ownsRow u.val.heap.size 3 1 v' xs.length (xs.map (Value.int .i64)) → Below u.val.heap.size u.val w' → RetOwn B W xs (.returned v') w' := by
      intro v' w' ho hb
      have hsz : u.val.heap.size ≤ w'.heap.size := hb.size
      refine ⟨v', rfl, ?_, ⟨w', u.below.trans (hb.mono u.size), Nat.le_trans u.size hsz⟩, rfl⟩
      have ho' := ho
      rcases ho.2 with ⟨e, hn⟩ | ⟨g, c, cur, e, h1, h2, h3, h4, h5, h6⟩
      · subst e
        have : xs = [] := List.length_eq_zero_iff.1 hn
        subst this
        exact ⟨none, 0, rfl, Own.nil _ _⟩
      · subst e
        exact ⟨some ⟨g, 0, none⟩, c, rfl, ho.1, .inr ⟨g, c, cur, rfl, Nat.le_trans u.size h1, h2, h3, h4, h5, h6⟩⟩
    by_cases hx : xs = []
    · subst hx
      refine (Try.slices_Clone_int_zero p cap u.val).mono ?_
      rintro e w ⟨v', rfl, ho, _, hb⟩
      exact fin v' w ho hb
    · obtain ⟨b, off, e2, hbB, hc⟩ := h hx
      simp only [Option.some.injEq] at e2
      subst e2
      refine (Try.slices_Clone_int b off xs.length cap xs u.val (Nat.le_refl _) (by omega) (fun j hj => by rw [u.cell (a := ⟨b, off + j, none⟩) hbB]; exact hc j hj)).mono ?_
      rintro e w ⟨v', rfl, ho, _, hb⟩
      rw [List.take_length] at ho
      exact fin v' w ho hb

end Go.Proofs.Ytdcdhdlklppalaa
