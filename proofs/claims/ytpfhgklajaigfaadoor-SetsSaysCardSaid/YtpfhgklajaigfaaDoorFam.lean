
/-
  Contracts over lists of numbers: IsFamily, Family (a rising list of sets), Index, Contains, Has, BinarySearch, has; of the law's own small helpers: Same, list, one, bad.
-/
import Derived.Test.YtpfhgklajaigfaaDoorLow
namespace Go.Proofs.YtpfhgklajaigfaaDoor
open Go.RowKit
set_option linter.unusedVariables false

def famTo (n : Int) (l : List Int) (k : Nat) : Prop := ∀ i, i < k → 0 ≤ l.getD i 0 ∧ l.getD i 0 ≤ all n ∧ (0 < i → l.getD (i-1) 0 < l.getD i 0)
instance (n l k) : Decidable (famTo n l k) := by unfold famTo; infer_instance
/-- a family: sets of n elements, rising -/
def isFam (n : Int) (l : List Int) : Prop := 0 ≤ n ∧ n ≤ 8 ∧ famTo n l l.length
instance (n l) : Decidable (isFam n l) := by unfold isFam; infer_instance
theorem famTo_step {n l k} (h : famTo n l k) (h0 : 0 ≤ l.getD k 0) (h1 : l.getD k 0 ≤ all n) (h2 : 0 < k → l.getD (k-1) 0 < l.getD k 0) : famTo n l (k+1) := by
  intro i hi
  by_cases e : i = k
  · subst e; exact ⟨h0, h1, h2⟩
  · exact h i (by omega)

set_option maxHeartbeats 1000000 in
theorem c_isFamily {B : Nat} {W : World} (u : Later B W) (n : Int) (l : List Int) (a : Option Addr) (cap : Nat) (h : IntsAt B W a l) (hlen : l.length ≤ 9223372036854775807) :
    Calls Tryd.prog 8 #[.int .i64 n, .slice a l.length cap] u.val (Ret B W (.bool (decide (isFam n l)))) := by
  have HI := Lib.hid h; clear h
  rcases ilt n 0 with ⟨h0, e0⟩ | ⟨h0, e0⟩
  · go_enter Tryd.func8, Tryd.ntmps8
    go_wp2
    go_ret
    exact Ret.mk u (vbool (dec_false (fun h => by have := h.1; omega)))
  rcases ilt 8 n with ⟨h8, e8⟩ | ⟨h8, e8⟩
  · go_enter Tryd.func8, Tryd.ntmps8
    go_wp2
    go_ret
    exact Ret.mk u (vbool (dec_false (fun h => by have := h.2.1; omega)))
  go_enter Tryd.func8, Tryd.ntmps8
  go_wp2
  go_loopw [5] (fun i wr => ∃ (k : Nat) (u : Later B W), k ≤ l.length ∧ i = .int .i64 k ∧ wr = u.val ∧ Hid (famTo n l k)) (fun i _ => l.length - (intOf i).toNat)
  case atStart => exact ⟨0, u, by omega, rfl, rfl, by intro i hi; omega⟩
  case round =>
    obtain ⟨k, u, hk, rfl, rfl, hf⟩ := hrel
    by_cases hlt : k < l.length
    · obtain ⟨b, off, rfl, hb, hc⟩ := HI.out.at hlt
      have c0 : ∀ u : Later B W, u.val.cell? ⟨b, off + k, none⟩ = some (.int .i64 (l.getD k 0)) := fun u => hc u k hlt
      have c1 : 0 < k → ∀ u : Later B W, u.val.cell? ⟨b, off + (k - 1), none⟩ = some (.int .i64 (l.getD (k-1) 0)) := fun _ u => hc u (k-1) (by omega)
      have hst := @famTo_step n l k hf.out
      have hno : famTo n l l.length → _ := fun h => h k hlt
      generalize l.getD k 0 = x at *
      generalize l.getD (k-1) 0 = y at *
      have H1 := Lib.hid hst; have H2 := Lib.hid hno
      clear hc hst hno hf
      have HA := Lib.hid (fun u : Later B W => c_all u n h0 h8)
      rcases ilt x 0 with ⟨g1, d1⟩ | ⟨g1, d1⟩ <;> rcases ilt (all n) x with ⟨g2, d2⟩ | ⟨g2, d2⟩ <;> rcases nlt 0 k with ⟨g3, d3⟩ | ⟨g3, d3⟩ <;> rcases ile x y with ⟨g4, d4⟩ | ⟨g4, d4⟩
      all_goals
        go_wp2
        refine wp_region_later u (by kernel_rfl) (by kernel_rfl) (fun _ => ?_)
        repeat (first | go_big_quiet_step (((go_at_call 13; exact HA.out _))) | (refine wpQuiet_step (fun K hK => ?_); go_simp; refine ⟨_, fun _ => rfl, ?_⟩; refine hK _ ?_; clear hK K))
        refine wpQuiet_nil ?_
        intro u
        go_wp2
        first
        | (go_ret
           exact Ret.mk u (vbool (dec_false (fun h => by have := H2.out h.2.2; omega))))
        | (go_roundw
           case rel => exact ⟨k+1, u, by omega, by go_num, rfl, H1.out (by omega) (by omega) (by omega)⟩
           case measure => simp [intOf]; omega)
    · go_wp2
      go_ret
      have hf' := hf.out
      rw [show k = l.length by omega] at hf'
      exact Ret.mk u (vbool (dec_true ⟨by omega, by omega, hf'⟩))

set_option maxHeartbeats 1000000 in
theorem c_family {B : Nat} {W : World} (u : Later B W) (n : Int) (l : List Int) (a : Option Addr) (cap : Nat) (h : IntsAt B W a l) (hlen : l.length ≤ 9223372036854775807) :
    Calls Tryd.prog 7 #[.int .i64 n, .slice a l.length cap] u.val (Ret B W (.int .i64 (errno (decide (isFam n l)) 1))) := by
  have HI := Lib.hid h; clear h
  rcases ilt n 0 with ⟨h0, e0⟩ | ⟨h0, e0⟩
  · go_enter Tryd.func7, Tryd.ntmps7
    go_wp2
    go_ret
    exact Ret.mk u (vint (errno_bad (fun h => by have := h.1; omega)))
  rcases ilt 8 n with ⟨h8, e8⟩ | ⟨h8, e8⟩
  · go_enter Tryd.func7, Tryd.ntmps7
    go_wp2
    go_ret
    exact Ret.mk u (vint (errno_bad (fun h => by have := h.2.1; omega)))
  obtain ⟨m, rfl⟩ := Int.eq_ofNat_of_zero_le h0
  have hb := bit_le m (by omega)
  have hc := bit_cast m
  have hall : all (m : Int) = (bit m : Int) - 1 := by rw [all_nat]; omega
  have HA := Lib.hid hall; clear hall
  go_enter Tryd.func7, Tryd.ntmps7
  go_wp2
  go_loopw [15] (fun i wr => ∃ (k : Nat) (u : Later B W), k ≤ l.length ∧ i = .int .i64 k ∧ wr = u.val ∧ Hid (famTo m l k)) (fun i _ => l.length - (intOf i).toNat)
  case atStart => exact ⟨0, u, by omega, rfl, rfl, by intro i hi; omega⟩
  case round =>
    obtain ⟨k, u, hk, rfl, rfl, hf⟩ := hrel
    by_cases hlt : k < l.length
    · obtain ⟨b, off, rfl, hb, hc⟩ := HI.out.at hlt
      have c0 : u.val.cell? ⟨b, off + k, none⟩ = some (.int .i64 (l.getD k 0)) := hc u k hlt
      have c1 : 0 < k → u.val.cell? ⟨b, off + (k - 1), none⟩ = some (.int .i64 (l.getD (k-1) 0)) := fun _ => hc u (k-1) (by omega)
      have hst := @famTo_step m l k hf.out
      have hno : famTo m l l.length → _ := fun h => h k hlt
      rw [HA.out] at hst hno
      generalize l.getD k 0 = x at *
      generalize l.getD (k-1) 0 = y at *
      have H1 := Lib.hid hst; have H2 := Lib.hid hno
      clear hc hst hno hf
      rcases ilt x 0 with ⟨g1, d1⟩ | ⟨g1, d1⟩ <;> rcases ile (bit m) x with ⟨g2, d2⟩ | ⟨g2, d2⟩ <;> rcases nlt 0 k with ⟨g3, d3⟩ | ⟨g3, d3⟩ <;> rcases ile x y with ⟨g4, d4⟩ | ⟨g4, d4⟩
      all_goals
        go_wp2
        first
        | (go_ret
           exact Ret.mk u (vint (errno_bad (fun h => by have := H2.out h.2.2; omega))))
        | (go_roundw
           case rel => exact ⟨k+1, u, by omega, by go_num, rfl, H1.out (by omega) (by omega) (by omega)⟩
           case measure => simp [intOf]; omega)
    · go_wp2
      go_ret
      have hf' := hf.out
      rw [show k = l.length by omega] at hf'
      exact Ret.mk u (vint (errno_ok ⟨by omega, by omega, hf'⟩))

/-- the place of a number in a list; -1: it is not there -/
def idx (l : List Int) (v : Int) : Int := if v ∈ l then (l.idxOf v : Int) else -1
theorem idx_not {l : List Int} {v : Int} (h : ∀ i, i < l.length → l.getD i 0 ≠ v) : idx l v = -1 := by
  unfold idx
  rw [if_neg]
  intro hm
  obtain ⟨i, hi, rfl⟩ := List.getElem_of_mem hm
  exact h i hi (by simp [hi])
theorem idx_at {l : List Int} {v : Int} {k : Nat} (hk : k < l.length) (he : l.getD k 0 = v) (h : ∀ i, i < k → l.getD i 0 ≠ v) : idx l v = k := by
  have hm : v ∈ l := by rw [← he]; simp [hk]
  have hlt : l.idxOf v < l.length := List.idxOf_lt_length_of_mem hm
  have hg : l[l.idxOf v] = v := List.getElem_idxOf hlt
  have hkk : l[k] = v := by simpa [hk] using he
  unfold idx
  rw [if_pos hm]
  have h1 : ¬ l.idxOf v < k := fun hh => h _ hh (by simp [hlt, hg])
  have h2 : ¬ k < l.idxOf v := fun hh => by
    have := List.not_of_lt_findIdx (p := (· == v)) (xs := l) hh
    simp [hkk] at this
  omega
theorem idx_nonneg {l : List Int} {v : Int} : 0 ≤ idx l v ↔ v ∈ l := by
  unfold idx; split <;> simp_all

end Go.Proofs.YtpfhgklajaigfaaDoor
