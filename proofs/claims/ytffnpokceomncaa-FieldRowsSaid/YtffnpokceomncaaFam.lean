
/-
  Contracts over lists of numbers: IsFamily, Family (a rising list of sets), Index, Contains, Has, BinarySearch, has; of the law's own small helpers: Same, list, one, bad.
-/
import Derived.Test.YtffnpokceomncaaLow
namespace Go.Proofs.Ytffnpokceomncaa
open Go.RowKit
set_option linter.unusedVariables false

def famTo (n : Int) (l : List Int) (k : Nat) : Prop := ∀ i, i < k → 0 ≤ l.getD i 0 ∧ l.getD i 0 ≤ all n ∧ (0 < i → l.getD (i-1) 0 < l.getD i 0)
instance (n l k) : Decidable (famTo n l k) := by unfold famTo; infer_instance
/-- a family: sets of n elements, rising -/
def isFam (n : Int) (l : List Int) : Prop := 0 ≤ n ∧ n ≤ 8 ∧ famTo n l l.length
instance (n l) : Decidable (isFam n l) := by unfold isFam; infer_instance
theorem famTo_step {n l k} (h : famTo n l k) (h0 : 0 ≤ l.getD k 0) (h1 : l.getD k 0 ≤ all n) (h2 : 0 < k → l.getD (k-1) 0 < l.getD k 0) : famTo n l (k+1) := by
  intro i hi
  by_cases e : i = k
  · subst e; exact ⟨h0, h1, h2⟩
  · exact h i (by omega)

/-- the place of a number in a list; -1: it is not there -/
def idx (l : List Int) (v : Int) : Int := if v ∈ l then (l.idxOf v : Int) else -1
theorem idx_not {l : List Int} {v : Int} (h : ∀ i, i < l.length → l.getD i 0 ≠ v) : idx l v = -1 := by
  unfold idx
  rw [if_neg]
  intro hm
  obtain ⟨i, hi, rfl⟩ := List.getElem_of_mem hm
  exact h i hi (by simp [hi])
theorem idx_at {l : List Int} {v : Int} {k : Nat} (hk : k < l.length) (he : l.getD k 0 = v) (h : ∀ i, i < k → l.getD i 0 ≠ v) : idx l v = k := by
  have hm : v ∈ l := by rw [← he]; simp [hk]
  have hlt : l.idxOf v < l.length := List.idxOf_lt_length_of_mem hm
  have hg : l[l.idxOf v] = v := List.getElem_idxOf hlt
  have hkk : l[k] = v := by simpa [hk] using he
  unfold idx
  rw [if_pos hm]
  have h1 : ¬ l.idxOf v < k := fun hh => h _ hh (by simp [hlt, hg])
  have h2 : ¬ k < l.idxOf v := fun hh => by
    have := List.not_of_lt_findIdx (p := (· == v)) (xs := l) hh
    simp [hkk] at this
  omega
theorem idx_nonneg {l : List Int} {v : Int} : 0 ≤ idx l v ↔ v ∈ l := by
  unfold idx; split <;> simp_all

set_option maxHeartbeats 1000000 in
theorem c_index {B : Nat} {W : World} (u : Later B W) (l : List Int) (v : Int) (a : Option Addr) (cap : Nat) (h : IntsAt B W a l) (hlen : l.length ≤ 9223372036854775807) :
    Calls Try.prog 59 #[.slice a l.length cap, .int .i64 v] u.val (Ret B W (.int .i64 (idx l v))) := by
  have HI := Lib.hid h; clear h
  go_enter Try.func59, Try.ntmps59
  go_wp2
  go_loopw [8] (fun i wr => ∃ (k : Nat) (u : Later B W), k ≤ l.length ∧ i = .int .i64 k ∧ wr = u.val ∧ Hid (∀ j, j < k → l.getD j 0 ≠ v)) (fun i _ => l.length - (intOf i).toNat)
  case atStart => exact ⟨0, u, by omega, rfl, rfl, by intro i hi; omega⟩
  case round =>
    obtain ⟨k, u, hk, rfl, rfl, hf⟩ := hrel
    by_cases hlt : k < l.length
    · obtain ⟨b, off, rfl, hb, hc⟩ := HI.out.at hlt
      have c0 : u.val.cell? ⟨b, off + k, none⟩ = some (.int .i64 (l.getD k 0)) := hc u k hlt
      have H1 := Lib.hid (fun he => idx_at hlt he hf.out)
      have H2 : Hid (l.getD k 0 ≠ v → ∀ j, j < k + 1 → l.getD j 0 ≠ v) := fun hne j hj => by
        by_cases e : j = k
        · rw [e]; exact hne
        · exact hf.out j (by omega)
      generalize l.getD k 0 = x at *
      clear hc hf
      rcases ieq v x with ⟨g1, d1, _⟩ | ⟨g1, d1, _⟩
      · subst g1
        go_wp2
        go_ret
        exact Ret.mk u (vint (H1.out (by trivial)).symm)
      · go_wp2
        go_roundw
        case rel => exact ⟨k+1, u, by omega, by go_num, rfl, H2.out (Ne.symm g1)⟩
        case measure => simp [intOf]; omega
    · go_wp2
      go_ret
      have hf' := hf.out
      rw [show k = l.length by omega] at hf'
      exact Ret.mk u (vint (idx_not hf').symm)

set_option maxHeartbeats 400000 in
theorem c_contains {B : Nat} {W : World} (u : Later B W) (l : List Int) (v : Int) (a : Option Addr) (cap : Nat) (h : IntsAt B W a l) (hlen : l.length ≤ 9223372036854775807) :
    Calls Try.prog 40 #[.slice a l.length cap, .int .i64 v] u.val (Ret B W (.bool (decide (v ∈ l)))) := by
  have H := Lib.hid (c_index u l v a cap h hlen); clear h
  go_enter Try.func40, Try.ntmps40
  go_wp2_with (go_at_call 59; refine H.out.mono ?_; rintro e _ ⟨rfl, v, rfl⟩)
  go_ret
  exact Ret.mk _ (vbool (by simp only [idx_nonneg]))

end Go.Proofs.Ytffnpokceomncaa
