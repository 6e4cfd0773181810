
/-
  Contracts over lists of numbers: IsFamily, Family (a rising list of sets), Index, Contains, Has, BinarySearch, has; of the law's own small helpers: Same, list, one, bad.
  Contracts: BinarySearch over a rising list, has, basis (is a number in a rising list?); of the law's own small helpers, where they answer true: Same, list, one; bad.
  The law's own helpers over matroids, where they answer true: SameMatroid, told.
-/
import Derived.Test.YtdcdhdlklppalaaPk01
namespace Go.Proofs.Ytdcdhdlklppalaa
open Go.RowKit
set_option linter.unusedVariables false

def famTo (n : Int) (l : List Int) (k : Nat) : Prop := ∀ i, i < k → 0 ≤ l.getD i 0 ∧ l.getD i 0 ≤ all n ∧ (0 < i → l.getD (i-1) 0 < l.getD i 0)
instance (n l k) : Decidable (famTo n l k) := by unfold famTo; infer_instance
/-- a family: sets of n elements, rising -/
def isFam (n : Int) (l : List Int) : Prop := 0 ≤ n ∧ n ≤ 8 ∧ famTo n l l.length
instance (n l) : Decidable (isFam n l) := by unfold isFam; infer_instance
theorem famTo_step {n l k} (h : famTo n l k) (h0 : 0 ≤ l.getD k 0) (h1 : l.getD k 0 ≤ all n) (h2 : 0 < k → l.getD (k-1) 0 < l.getD k 0) : famTo n l (k+1) := by
  intro i hi
  by_cases e : i = k
  · subst e; exact ⟨h0, h1, h2⟩
  · exact h i (by omega)

set_option maxHeartbeats 1000000 in
theorem c_isFamily {B : Nat} {W : World} (u : Later B W) (n : Int) (l : List Int) (a : Option Addr) (cap : Nat) (h : IntsAt B W a l) (hlen : l.length ≤ 9223372036854775807) :
    Calls Try.prog 19 #[.int .i64 n, .slice a l.length cap] u.val (Ret B W (.bool (decide (isFam n l)))) := by
  have HI := Lib.hid h; clear h
  rcases ilt n 0 with ⟨h0, e0⟩ | ⟨h0, e0⟩
  · go_enter Try.func19, Try.ntmps19
    go_wp2
    go_ret
    exact Ret.mk u (vbool (dec_false (fun h => by have := h.1; omega)))
  rcases ilt 8 n with ⟨h8, e8⟩ | ⟨h8, e8⟩
  · go_enter Try.func19, Try.ntmps19
    go_wp2
    go_ret
    exact Ret.mk u (vbool (dec_false (fun h => by have := h.2.1; omega)))
  go_enter Try.func19, Try.ntmps19
  go_wp2
  go_loopw [5] (fun i wr => ∃ (k : Nat) (u : Later B W), k ≤ l.length ∧ i = .int .i64 k ∧ wr = u.val ∧ Hid (famTo n l k)) (fun i _ => l.length - (intOf i).toNat)
  case atStart => exact ⟨0, u, by omega, rfl, rfl, by intro i hi; omega⟩
  case round =>
    obtain ⟨k, u, hk, rfl, rfl, hf⟩ := hrel
    by_cases hlt : k < l.length
    · obtain ⟨b, off, rfl, hb, hc⟩ := HI.out.at hlt
      have c0 : ∀ u : Later B W, u.val.cell? ⟨b, off + k, none⟩ = some (.int .i64 (l.getD k 0)) := fun u => hc u k hlt
      have c1 : 0 < k → ∀ u : Later B W, u.val.cell? ⟨b, off + (k - 1), none⟩ = some (.int .i64 (l.getD (k-1) 0)) := fun _ u => hc u (k-1) (by omega)
      have hst := @famTo_step n l k hf.out
      have hno : famTo n l l.length → _ := fun h => h k hlt
      generalize l.getD k 0 = x at *
      generalize l.getD (k-1) 0 = y at *
      have H1 := Lib.hid hst; have H2 := Lib.hid hno
      clear hc hst hno hf
      have HA := Lib.hid (fun u : Later B W => c_all u n h0 h8)
      rcases ilt x 0 with ⟨g1, d1⟩ | ⟨g1, d1⟩ <;> rcases ilt (all n) x with ⟨g2, d2⟩ | ⟨g2, d2⟩ <;> rcases nlt 0 k with ⟨g3, d3⟩ | ⟨g3, d3⟩ <;> rcases ile x y with ⟨g4, d4⟩ | ⟨g4, d4⟩
      all_goals
        go_wp2
        refine wp_region_later u (by kernel_rfl) (by kernel_rfl) (fun _ => ?_)
        repeat (first | go_big_quiet_step (((go_at_call 22; exact HA.out _))) | (refine wpQuiet_step (fun K hK => ?_); go_simp; refine ⟨_, fun _ => rfl, ?_⟩; refine hK _ ?_; clear hK K))
        refine wpQuiet_nil ?_
        intro u
        go_wp2
        first
        | (go_ret
           exact Ret.mk u (vbool (dec_false (fun h => by have := H2.out h.2.2; omega))))
        | (go_roundw
           case rel => exact ⟨k+1, u, by omega, by go_num, rfl, H1.out (by omega) (by omega) (by omega)⟩
           case measure => simp [intOf]; omega)
    · go_wp2
      go_ret
      have hf' := hf.out
      rw [show k = l.length by omega] at hf'
      exact Ret.mk u (vbool (dec_true ⟨by omega, by omega, hf'⟩))

set_option maxHeartbeats 1000000 in
theorem c_family {B : Nat} {W : World} (u : Later B W) (n : Int) (l : List Int) (a : Option Addr) (cap : Nat) (h : IntsAt B W a l) (hlen : l.length ≤ 9223372036854775807) :
    Calls Try.prog 53 #[.int .i64 n, .slice a l.length cap] u.val (Ret B W (.int .i64 (errno (decide (isFam n l)) 1))) := by
  have HI := Lib.hid h; clear h
  rcases ilt n 0 with ⟨h0, e0⟩ | ⟨h0, e0⟩
  · go_enter Try.func53, Try.ntmps53
    go_wp2
    go_ret
    exact Ret.mk u (vint (errno_bad (fun h => by have := h.1; omega)))
  rcases ilt 8 n with ⟨h8, e8⟩ | ⟨h8, e8⟩
  · go_enter Try.func53, Try.ntmps53
    go_wp2
    go_ret
    exact Ret.mk u (vint (errno_bad (fun h => by have := h.2.1; omega)))
  obtain ⟨m, rfl⟩ := Int.eq_ofNat_of_zero_le h0
  have hb := bit_le m (by omega)
  have hc := bit_cast m
  have hall : all (m : Int) = (bit m : Int) - 1 := by rw [all_nat]; omega
  have HA := Lib.hid hall; clear hall
  go_enter Try.func53, Try.ntmps53
  go_wp2
  go_loopw [15] (fun i wr => ∃ (k : Nat) (u : Later B W), k ≤ l.length ∧ i = .int .i64 k ∧ wr = u.val ∧ Hid (famTo m l k)) (fun i _ => l.length - (intOf i).toNat)
  case atStart => exact ⟨0, u, by omega, rfl, rfl, by intro i hi; omega⟩
  case round =>
    obtain ⟨k, u, hk, rfl, rfl, hf⟩ := hrel
    by_cases hlt : k < l.length
    · obtain ⟨b, off, rfl, hb, hc⟩ := HI.out.at hlt
      have c0 : u.val.cell? ⟨b, off + k, none⟩ = some (.int .i64 (l.getD k 0)) := hc u k hlt
      have c1 : 0 < k → u.val.cell? ⟨b, off + (k - 1), none⟩ = some (.int .i64 (l.getD (k-1) 0)) := fun _ => hc u (k-1) (by omega)
      have hst := @famTo_step m l k hf.out
      have hno : famTo m l l.length → _ := fun h => h k hlt
      rw [HA.out] at hst hno
      generalize l.getD k 0 = x at *
      generalize l.getD (k-1) 0 = y at *
      have H1 := Lib.hid hst; have H2 := Lib.hid hno
      clear hc hst hno hf
      rcases ilt x 0 with ⟨g1, d1⟩ | ⟨g1, d1⟩ <;> rcases ile (bit m) x with ⟨g2, d2⟩ | ⟨g2, d2⟩ <;> rcases nlt 0 k with ⟨g3, d3⟩ | ⟨g3, d3⟩ <;> rcases ile x y with ⟨g4, d4⟩ | ⟨g4, d4⟩
      all_goals
        go_wp2
        first
        | (go_ret
           exact Ret.mk u (vint (errno_bad (fun h => by have := H2.out h.2.2; omega))))
        | (go_roundw
           case rel => exact ⟨k+1, u, by omega, by go_num, rfl, H1.out (by omega) (by omega) (by omega)⟩
           case measure => simp [intOf]; omega)
    · go_wp2
      go_ret
      have hf' := hf.out
      rw [show k = l.length by omega] at hf'
      exact Ret.mk u (vint (errno_ok ⟨by omega, by omega, hf'⟩))

/-- the place of a number in a list; -1: it is not there -/
def idx (l : List Int) (v : Int) : Int := if v ∈ l then (l.idxOf v : Int) else -1
theorem idx_not {l : List Int} {v : Int} (h : ∀ i, i < l.length → l.getD i 0 ≠ v) : idx l v = -1 := by
  unfold idx
  rw [if_neg]
  intro hm
  obtain ⟨i, hi, rfl⟩ := List.getElem_of_mem hm
  exact h i hi (by simp [hi])
theorem idx_at {l : List Int} {v : Int} {k : Nat} (hk : k < l.length) (he : l.getD k 0 = v) (h : ∀ i, i < k → l.getD i 0 ≠ v) : idx l v = k := by
  have hm : v ∈ l := by rw [← he]; simp [hk]
  have hlt : l.idxOf v < l.length := List.idxOf_lt_length_of_mem hm
  have hg : l[l.idxOf v] = v := List.getElem_idxOf hlt
  have hkk : l[k] = v := by simpa [hk] using he
  unfold idx
  rw [if_pos hm]
  have h1 : ¬ l.idxOf v < k := fun hh => h _ hh (by simp [hlt, hg])
  have h2 : ¬ k < l.idxOf v := fun hh => by
    have := List.not_of_lt_findIdx (p := (· == v)) (xs := l) hh
    simp [hkk] at this
  omega
theorem idx_nonneg {l : List Int} {v : Int} : 0 ≤ idx l v ↔ v ∈ l := by
  unfold idx; split <;> simp_all

set_option maxHeartbeats 1000000 in
theorem c_index {B : Nat} {W : World} (u : Later B W) (l : List Int) (v : Int) (a : Option Addr) (cap : Nat) (h : IntsAt B W a l) (hlen : l.length ≤ 9223372036854775807) :
    Calls Try.prog 46 #[.slice a l.length cap, .int .i64 v] u.val (Ret B W (.int .i64 (idx l v))) := by
  have HI := Lib.hid h; clear h
  go_enter Try.func46, Try.ntmps46
  go_wp2
  go_loopw [8] (fun i wr => ∃ (k : Nat) (u : Later B W), k ≤ l.length ∧ i = .int .i64 k ∧ wr = u.val ∧ Hid (∀ j, j < k → l.getD j 0 ≠ v)) (fun i _ => l.length - (intOf i).toNat)
  case atStart => exact ⟨0, u, by omega, rfl, rfl, by intro i hi; omega⟩
  case round =>
    obtain ⟨k, u, hk, rfl, rfl, hf⟩ := hrel
    by_cases hlt : k < l.length
    · obtain ⟨b, off, rfl, hb, hc⟩ := HI.out.at hlt
      have c0 : u.val.cell? ⟨b, off + k, none⟩ = some (.int .i64 (l.getD k 0)) := hc u k hlt
      have H1 := Lib.hid (fun he => idx_at hlt he hf.out)
      have H2 : Hid (l.getD k 0 ≠ v → ∀ j, j < k + 1 → l.getD j 0 ≠ v) := fun hne j hj => by
        by_cases e : j = k
        · rw [e]; exact hne
        · exact hf.out j (by omega)
      generalize l.getD k 0 = x at *
      clear hc hf
      rcases ieq v x with ⟨g1, d1, _⟩ | ⟨g1, d1, _⟩
      · subst g1
        go_wp2
        go_ret
        exact Ret.mk u (vint (H1.out (by trivial)).symm)
      · go_wp2
        go_roundw
        case rel => exact ⟨k+1, u, by omega, by go_num, rfl, H2.out (Ne.symm g1)⟩
        case measure => simp [intOf]; omega
    · go_wp2
      go_ret
      have hf' := hf.out
      rw [show k = l.length by omega] at hf'
      exact Ret.mk u (vint (idx_not hf').symm)

set_option maxHeartbeats 400000 in
theorem c_contains {B : Nat} {W : World} (u : Later B W) (l : List Int) (v : Int) (a : Option Addr) (cap : Nat) (h : IntsAt B W a l) (hlen : l.length ≤ 9223372036854775807) :
    Calls Try.prog 23 #[.slice a l.length cap, .int .i64 v] u.val (Ret B W (.bool (decide (v ∈ l)))) := by
  have H := Lib.hid (c_index u l v a cap h hlen); clear h
  go_enter Try.func23, Try.ntmps23
  go_wp2_with (go_at_call 46; refine H.out.mono ?_; rintro e _ ⟨rfl, v, rfl⟩)
  go_ret
  exact Ret.mk _ (vbool (by simp only [idx_nonneg]))

set_option maxHeartbeats 400000 in
theorem c_has {B : Nat} {W : World} (u : Later B W) (l : List Int) (v : Int) (a : Option Addr) (cap : Nat) (h : IntsAt B W a l) (hlen : l.length ≤ 9223372036854775807) :
    Calls Try.prog 79 #[.slice a l.length cap, .int .i64 v] u.val (Ret B W (.bool (decide (v ∈ l)))) := by
  have H := Lib.hid (c_contains u l v a cap h hlen); clear h
  go_enter Try.func79, Try.ntmps79
  go_wp2_with (go_at_call 23; refine H.out.mono ?_; rintro e _ ⟨rfl, v, rfl⟩)
  go_ret
  exact Ret.mk _ rfl

end Go.Proofs.Ytdcdhdlklppalaa

namespace Go.Proofs.Ytdcdhdlklppalaa
open Go.RowKit
set_option linter.unusedVariables false

def rising (l : List Int) : Prop := ∀ i j, i < j → j < l.length → l.getD i 0 < l.getD j 0
theorem famTo.rising {n l} (h : famTo n l l.length) : rising l := by
  intro i j hij hj
  induction j with
  | zero => omega
  | succ j ih =>
    have h1 := (h (j+1) hj).2.2 (by omega)
    simp only [Nat.add_sub_cancel] at h1
    by_cases e : i = j
    · subst e; exact h1
    · have := ih (by omega) (by omega); omega

theorem bs_found {l : List Int} {v : Int} {i : Nat} (hi : i < l.length) (he : l.getD i 0 = v) : v ∈ l := by rw [← he]; simp [hi]
theorem bs_not {l : List Int} {v : Int} {i : Nat} (h1 : ∀ a, a < i → l.getD a 0 < v) (h2 : ∀ a, i ≤ a → a < l.length → v ≤ l.getD a 0) (hs : rising l) (hne : i < l.length → l.getD i 0 ≠ v) : v ∉ l := by
  intro hm
  obtain ⟨a, ha, e⟩ := List.getElem_of_mem hm
  have e' : l.getD a 0 = v := by simp [ha, e]
  by_cases c : a < i
  · have := h1 a c; omega
  · by_cases c2 : a = i
    · subst c2; exact hne ha e'
    · have := hs i a (by omega) ha
      have := h2 i (by omega) (by omega)
      omega

/-- what BinarySearch says: some place, and whether it is there -/
def bsPost (l : List Int) (v : Int) (x : Value) (_ : World) : Prop := ∃ i : Int, x = .tuple #[.int .i64 i, .bool (decide (v ∈ l))]
theorem bsPost.mk {l : List Int} {v i : Int} {b : Bool} {w : World} (h : b = decide (v ∈ l)) : bsPost l v (.tuple #[.int .i64 i, .bool b]) w := ⟨i, by rw [h]⟩

set_option maxHeartbeats 400000 in
theorem c_isNaN {B : Nat} {W : World} (u : Later B W) (x : Int) : Calls Try.prog 87 #[.int .i64 x] u.val (Ret B W (.bool false)) := by
  go_enter Try.func87, Try.ntmps87
  go_wp2
  go_ret
  exact Ret.mk u (vbool (by simp))
set_option maxHeartbeats 400000 in
theorem c_cmpIsNaN {B : Nat} {W : World} (u : Later B W) (x : Int) : Calls Try.prog 61 #[.int .i64 x] u.val (Ret B W (.bool false)) := by
  go_enter Try.func61, Try.ntmps61
  go_wp2
  go_ret
  exact Ret.mk u (vbool (by simp))
set_option maxHeartbeats 400000 in
theorem c_cmpLess {B : Nat} {W : World} (u : Later B W) (x y : Int) : Calls Try.prog 68 #[.int .i64 x, .int .i64 y] u.val (Ret B W (.bool (decide (x < y)))) := by
  have H := Lib.hid (fun (u : Later B W) x => c_cmpIsNaN u x)
  go_enter Try.func68, Try.ntmps68
  go_wp2_with (go_at_call 61; refine (H.out u _).mono ?_; rintro e _ ⟨rfl, v, rfl⟩)
  go_ret
  exact Ret.mk _ rfl

set_option maxHeartbeats 1000000 in
theorem c_bsearch {B : Nat} {W : World} (u : Later B W) (l : List Int) (v : Int) (a : Option Addr) (cap : Nat) (h : IntsAt B W a l) (hlen : l.length ≤ 4611686018427387904) (hs : rising l) :
    Calls Try.prog 74 #[.slice a l.length cap, .int .i64 v] u.val (RetP B W (bsPost l v)) := by
  have HI := Lib.hid h; clear h
  have HS := Lib.hid hs; clear hs
  go_enter Try.func74, Try.ntmps74
  go_wp2
  go_loopw [7, 8] (fun i j wr => ∃ (p q : Nat) (u : Later B W), p ≤ q ∧ q ≤ l.length ∧ i = .int .i64 p ∧ j = .int .i64 q ∧ wr = u.val ∧ Hid (∀ a, a < p → l.getD a 0 < v) ∧ Hid (∀ a, q ≤ a → a < l.length → v ≤ l.getD a 0)) (fun i j _ => (intOf j - intOf i).toNat)
  case atStart => exact ⟨0, l.length, u, by omega, by omega, rfl, rfl, rfl, by intro i hi; omega, by intro i hi; omega⟩
  case round =>
    obtain ⟨p, q, u, hpq, hq, rfl, rfl, rfl, H1, H2⟩ := hrel
    by_cases hlt : p < q
    · obtain ⟨b, off, rfl, hb, hc⟩ := HI.out.at (k := p) (by omega)
      have c0 : u.val.cell? ⟨b, off + (p + q) / 2, none⟩ = some (.int .i64 (l.getD ((p + q) / 2) 0)) := hc u ((p + q) / 2) (by omega)
      have H3 : Hid (l.getD ((p + q) / 2) 0 < v → ∀ a, a < (p + q) / 2 + 1 → l.getD a 0 < v) := fun hx a ha => by
        by_cases e : a = (p + q) / 2
        · rw [e]; exact hx
        · have := HS.out a ((p + q) / 2) (by omega) (by omega); omega
      have H4 : Hid (v ≤ l.getD ((p + q) / 2) 0 → ∀ a, (p + q) / 2 ≤ a → a < l.length → v ≤ l.getD a 0) := fun hx a ha hal => by
        by_cases e : a = (p + q) / 2
        · rw [e]; exact hx
        · have := HS.out ((p + q) / 2) a (by omega) (by omega); omega
      generalize l.getD ((p + q) / 2) 0 = x at *
      clear hc
      have H := Lib.hid (c_cmpLess u x v)
      rcases ilt x v with ⟨g1, d1⟩ | ⟨g1, d1⟩
      · go_wp2_with (go_at_call 68; refine H.out.mono ?_; rintro e _ ⟨rfl, u1, rfl⟩)
        go_roundw
        case rel => exact ⟨(p + q) / 2 + 1, q, u1, by omega, by omega, by go_num, rfl, rfl, H3.out g1, H2⟩
        case measure => simp [intOf]; omega
      · go_wp2_with (go_at_call 68; refine H.out.mono ?_; rintro e _ ⟨rfl, u1, rfl⟩)
        go_roundw
        case rel => exact ⟨p, (p + q) / 2, u1, by omega, by omega, rfl, by go_num, rfl, H1, H4.out g1⟩
        case measure => simp [intOf]; omega
    · have e : p = q := by omega
      subst e
      have HN := Lib.hid (fun (u : Later B W) x => c_isNaN u x)
      rcases nlt p l.length with ⟨g1, d1⟩ | ⟨g1, d1⟩
      · obtain ⟨b, off, rfl, hb, hc⟩ := HI.out.at (k := p) (by omega)
        have c0 : ∀ u : Later B W, u.val.cell? ⟨b, off + p, none⟩ = some (.int .i64 (l.getD p 0)) := fun u => hc u p g1
        have H3 := Lib.hid (fun he => bs_found (v := v) g1 he)
        have H4 := Lib.hid (fun hne => bs_not H1.out H2.out HS.out (fun _ => hne))
        generalize l.getD p 0 = x at *
        clear hc
        rcases ieq x v with ⟨g2, d2, _⟩ | ⟨g2, d2, _⟩
        · have g3 : v ∈ l := H3.out g2
          subst g2
          go_wp2_with (go_at_call 87; refine (HN.out _ _).mono ?_; rintro e _ ⟨rfl, u1, rfl⟩)
          go_ret2
          exact RetP.mk _ (bsPost.mk (dec_true g3))
        · have g3 : v ∉ l := H4.out g2
          go_wp2_with (go_at_call 87; refine (HN.out _ _).mono ?_; rintro e _ ⟨rfl, u1, rfl⟩)
          go_ret2
          exact RetP.mk _ (bsPost.mk (dec_false g3))
      · have g3 : v ∉ l := bs_not H1.out H2.out HS.out (fun h => by omega)
        go_wp2_with (go_at_call 87; refine (HN.out _ _).mono ?_; rintro e _ ⟨rfl, u1, rfl⟩)
        go_ret2
        exact RetP.mk _ (bsPost.mk (dec_false g3))


/-! ### the law's own helpers, where they answer true -/
set_option maxHeartbeats 1000000 in
theorem c_same {B : Nat} {W : World} (u : Later B W) (l : List Int) (a b : Option Addr) (ca cb : Nat) (ha : IntsAt B W a l) (hb : IntsAt B W b l) (hlen : l.length ≤ 4611686018427387904) :
    Calls Try.prog 44 #[.slice a l.length ca, .slice b l.length cb] u.val (Ret B W (.bool true)) := by
  have HA := Lib.hid ha; have HB := Lib.hid hb; clear ha hb
  go_enter Try.func44, Try.ntmps44
  go_wp2
  go_loopw [13] (fun i wr => ∃ (k : Nat) (u : Later B W), k ≤ l.length ∧ i = .int .i64 k ∧ wr = u.val) (fun i _ => l.length - (intOf i).toNat)
  case atStart => exact ⟨0, u, by omega, rfl, rfl⟩
  case round =>
    obtain ⟨k, u, hk, rfl, rfl⟩ := hrel
    by_cases hlt : k < l.length
    · obtain ⟨p, off, rfl, hp, hc⟩ := HA.out.at hlt
      obtain ⟨q, off', rfl, hq, hc'⟩ := HB.out.at hlt
      have c0 : ∀ u : Later B W, u.val.cell? ⟨p, off + k, none⟩ = some (.int .i64 (l.getD k 0)) := fun u => hc u k hlt
      have c1 : ∀ u : Later B W, u.val.cell? ⟨q, off' + k, none⟩ = some (.int .i64 (l.getD k 0)) := fun u => hc' u k hlt
      generalize l.getD k 0 = x at *
      clear hc hc'
      go_wp2
      refine wp_region_later u (by kernel_rfl) (by kernel_rfl) (fun _ => ?_)
      repeat (first | go_big_quiet_step ((fail)) | (refine wpQuiet_step (fun K hK => ?_); go_simp; refine ⟨_, fun _ => rfl, ?_⟩; refine hK _ ?_; clear hK K))
      refine wpQuiet_nil ?_
      intro u
      go_wp2
      go_roundw
      case rel => exact ⟨k+1, u, by omega, by go_num, rfl⟩
      case measure => simp [intOf]; omega
    · go_wp2
      go_ret
      exact Ret.mk u rfl

set_option maxHeartbeats 400000 in
theorem c_bad {B : Nat} {W : World} (u : Later B W) (ok : Bool) (e : Int) : Calls Try.prog 5 #[.bool ok, .int .i64 e] u.val (Ret B W (.int .i64 (errno ok e))) := by
  cases ok
  all_goals
    go_enter Try.func5, Try.ntmps5
    go_wp2
    go_ret
    exact Ret.mk u rfl

set_option maxHeartbeats 400000 in
theorem c_one {B : Nat} {W : World} (u : Later B W) (x e y f : Int) (he : e = f) (h : if f = 0 then x = y else x = 0) : Calls Try.prog 18 #[.int .i64 x, .int .i64 e, .int .i64 y, .int .i64 f] u.val (Ret B W (.bool true)) := by
  subst he
  rcases ieq e 0 with ⟨g1, d1, d2⟩ | ⟨g1, d1, d2⟩
  · rw [if_pos g1] at h
    subst h g1
    go_enter Try.func18, Try.ntmps18
    go_wp2
    go_ret
    exact Ret.mk u (vbool (by simp))
  · rw [if_neg g1] at h
    subst h
    go_enter Try.func18, Try.ntmps18
    go_wp2
    go_ret
    exact Ret.mk u (vbool (by simp))

set_option maxHeartbeats 400000 in
theorem c_list {B : Nat} {W : World} (u : Later B W) (l m : List Int) (a b : Option Addr) (ca cb : Nat) (e f : Int) (ha : IntsAt B W a l) (hb : IntsAt B W b m) (hlen : l.length ≤ 4611686018427387904) (he : e = f) (h : if f = 0 then l = m else l = []) :
    Calls Try.prog 17 #[.slice a l.length ca, .int .i64 e, .slice b m.length cb, .int .i64 f] u.val (Ret B W (.bool true)) := by
  subst he
  rcases ieq e 0 with ⟨g1, d1, d2⟩ | ⟨g1, d1, d2⟩
  · rw [if_pos g1] at h
    subst h g1
    have H := Lib.hid (c_same u l a b ca cb ha hb hlen); clear ha hb
    go_enter Try.func17, Try.ntmps17
    go_wp2_with (go_at_call 44; refine H.out.mono ?_; rintro e _ ⟨rfl, u1, rfl⟩)
    go_ret
    exact Ret.mk _ rfl
  · rw [if_neg g1] at h
    subst h
    clear ha hb
    go_enter Try.func17, Try.ntmps17
    go_wp2
    go_ret
    exact Ret.mk u (vbool (by simp))

end Go.Proofs.Ytdcdhdlklppalaa

namespace Go.Proofs.Ytdcdhdlklppalaa
open Go.RowKit
set_option linter.unusedVariables false

set_option maxRecDepth 100000 in
set_option maxHeartbeats 1000000 in
theorem c_sameMatroid {B : Nat} {W : World} (u : Later B W) (n : Int) (l : List Int) (a b : Option Addr) (ca cb : Nat) (ha : IntsAt B W a l) (hb : IntsAt B W b l) (hlen : l.length ≤ 4611686018427387904) :
    Calls Try.prog 43 #[.agg #[.int .i64 n, .slice a l.length ca], .agg #[.int .i64 n, .slice b l.length cb]] u.val (Ret B W (.bool true)) := by
  have H := Lib.hid (fun o1 o2 => c_same ((u.alloc o1).alloc o2) l a b ca cb ha hb hlen)
  have H2 : Hid (∀ o1 o2, Calls Try.prog 44 #[.slice a l.length ca, .slice b l.length cb] ((u.val.alloc o1).alloc o2) (Ret B W (.bool true))) := H
  clear ha hb H
  go_enter Try.func43, Try.ntmps43
  go_wp2_with (first | (go_at_call 44; refine (H2.out _ _).mono ?_; rintro e _ ⟨rfl, v1, rfl⟩))
  go_ret
  exact Ret.mk _ rfl

set_option maxRecDepth 100000 in
set_option maxHeartbeats 1000000 in
theorem c_told {B : Nat} {W : World} (u : Later B W) (n n' : Int) (l l' : List Int) (a b : Option Addr) (ca cb : Nat) (e f : Int) (ha : IntsAt B W a l) (hb : IntsAt B W b l') (hlen : l.length ≤ 4611686018427387904) (he : e = f) (h : if f = 0 then n = n' ∧ l = l' else n = 0 ∧ l = []) :
    Calls Try.prog 16 #[.agg #[.int .i64 n, .slice a l.length ca], .int .i64 e, .agg #[.int .i64 n', .slice b l'.length cb], .int .i64 f] u.val (Ret B W (.bool true)) := by
  subst he
  rcases ieq e 0 with ⟨g1, d1, d2⟩ | ⟨g1, d1, d2⟩
  · rw [if_pos g1] at h
    obtain ⟨rfl, rfl⟩ := h
    subst g1
    have H := Lib.hid (fun o1 o2 => c_sameMatroid ((u.alloc o1).alloc o2) n l a b ca cb ha hb hlen)
    have H2 : Hid (∀ o1 o2, Calls Try.prog 43 #[.agg #[.int .i64 n, .slice a l.length ca], .agg #[.int .i64 n, .slice b l.length cb]] ((u.val.alloc o1).alloc o2) (Ret B W (.bool true))) := H
    clear ha hb H
    go_enter Try.func16, Try.ntmps16
    go_wp2_with (first | (go_at_call 43; refine (H2.out _ _).mono ?_; rintro e _ ⟨rfl, v1, rfl⟩))
    go_ret
    exact Ret.mk _ rfl
  · rw [if_neg g1] at h
    obtain ⟨rfl, rfl⟩ := h
    have HU : Hid (∀ o1 o2, ∃ w : Later B W, w.val = (u.val.alloc o1).alloc o2) := Lib.hid (fun o1 o2 => ⟨(u.alloc o1).alloc o2, rfl⟩)
    clear ha hb
    go_enter Try.func16, Try.ntmps16
    go_wp2
    go_ret
    exact Ret.of (HU.out _ _) (vbool (by simp))

end Go.Proofs.Ytdcdhdlklppalaa
