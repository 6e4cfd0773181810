/-
  Hull and Extreme: convex.hull, convex.Hull, convex.Extreme, rotaref.Hull, rotaref.Ends, convex.right: of a family of sets of n elements and a set of n elements.
-/
import Derived.Test.YtcljgnmlpfddiaaConv2
namespace Go.Proofs.Ytcljgnmlpfddiaa
open Go.RowKit
set_option linter.unusedVariables false

/-- what the sets of a list have together that have nothing of s: the first k -/
def orTo (l : List Int) (s : Nat) : Nat → Nat
  | 0 => 0
  | k + 1 => if (l.getD k 0).toNat &&& s = 0 then orTo l s k ||| (l.getD k 0).toNat else orTo l s k
theorem orTo_lt {n : Int} {l : List Int} (h : isFam n l) (s k : Nat) (hk : k ≤ l.length) : orTo l s k < 256 := by
  induction k with
  | zero => show 0 < 256; decide
  | succ k ih =>
    obtain ⟨t, ht, h256, _⟩ := fam_nat h (i := k) (by omega)
    unfold orTo
    split
    · exact or_lt _ _ (ih (by omega)) (by rw [ht]; exact h256)
    · exact ih (by omega)
theorem orTo_step {l : List Int} {s k t : Nat} (ht : l.getD k 0 = t) : orTo l s (k + 1) = if t &&& s = 0 then orTo l s k ||| t else orTo l s k := by
  show (if (l.getD k 0).toNat &&& s = 0 then orTo l s k ||| (l.getD k 0).toNat else orTo l s k) = _
  rw [ht]; rfl
def hullOf (n : Nat) (l : List Int) (s : Nat) : Nat := nand (bit n - 1) (orTo l s l.length)
theorem hullOf_lt (n : Nat) (l : List Int) (s : Nat) (hn : n ≤ 8) : hullOf n l s < 256 := by
  have := bit_le n hn
  exact nand_lt _ _ 8 (by show bit n - 1 < 256; omega)

set_option maxHeartbeats 1000000 in
theorem c_hull {B : Nat} {W : World} (u : Later B W) (m s : Nat) (l : List Int) (a : Option Addr) (cap : Nat) (h : IntsAt B W a l) (hlen : l.length ≤ 4611686018427387904) (hf : isFam m l) (hs : s < 256) :
    Calls Try.prog 111 #[.int .i64 m, .slice a l.length cap, .int .i64 s] u.val (Ret B W (.int .i64 (hullOf m l s))) := by
  have HI := Lib.hid h; clear h
  have hn8 := hf.2.1
  have HFam := Lib.hid hf; clear hf
  have hb := bit_le m (by omega)
  have hc := bit_cast m
  go_enter Try.func111, Try.ntmps111
  go_wp2
  go_loopw [7, 12] (fun o i wr => ∃ (k : Nat) (u : Later B W), k ≤ l.length ∧ i = .int .i64 k ∧ wr = u.val ∧ o = .int .i64 (orTo l s k)) (fun _ i _ => l.length - (intOf i).toNat)
  case atStart => exact ⟨0, u, by omega, rfl, rfl, rfl⟩
  case round =>
    obtain ⟨k, u, hk, rfl, rfl, rfl⟩ := hrel
    have ho := orTo_lt HFam.out s k hk
    by_cases hlt : k < l.length
    · obtain ⟨t, ht, ht256, _, _⟩ := fam_nat HFam.out hlt
      obtain ⟨b, off, rfl, hbB, hcell⟩ := HI.out.at hlt
      have c0 : u.val.cell? ⟨b, off + k, none⟩ = some (.int .i64 t) := by rw [← ht]; exact hcell u k hlt
      have HS := Lib.hid (orTo_step (s := s) ht)
      clear ht hcell
      have h1 := i64_and t s (by omega) (by omega)
      have h2 := i64_or (orTo l s k) t (by omega) (by omega)
      by_cases hz : t &&& s = 0
      · have d : (((t &&& s : Nat) : Int) == 0) = true := by rw [hz]; rfl
        have HZ := Lib.hid hz; clear hz
        go_wp2
        go_roundw
        case rel => exact ⟨k+1, u, by omega, by go_num, rfl, by rw [HS.out, if_pos HZ.out]⟩
        case measure => simp [intOf]; omega
      · have d : (((t &&& s : Nat) : Int) == 0) = false := beq_eq_false_iff_ne.2 (by omega)
        have HZ := Lib.hid hz; clear hz
        go_wp2
        go_roundw
        case rel => exact ⟨k+1, u, by omega, by go_num, rfl, by rw [HS.out, if_neg HZ.out]⟩
        case measure => simp [intOf]; omega
    · have hke : Hid (k = l.length) := Lib.hid (by omega)
      have h3 := i64_andNot (bit m - 1) (orTo l s k) (by omega) (by omega)
      rw [show ((bit m - 1 : Nat) : Int) = (bit m : Int) - 1 by omega] at h3
      go_wp2
      go_ret
      exact Ret.mk u (vint (by rw [hke.out]; rfl))

theorem within_all {m t s : Nat} (hm : m ≤ 8) (hs : s < bit m) (ht : t < bit m) : (s ||| (bit m - 1 - t) = bit m - 1 - t) ↔ t &&& s = 0 := by
  have hb := bit_le m hm
  have : ∀ m : Fin 9, ∀ t : Fin 256, t.val < bit m.val → bit m.val - 1 - t.val = nand (bit m.val - 1) t.val := by decide +kernel
  rw [this ⟨m, by omega⟩ ⟨t, by omega⟩ ht, or_eq_iff, and_eq_zero_iff]
  have hlt := (lt_pow_iff m s hm (by omega)).1 hs
  constructor
  · intro h i hi
    cases hsi : s.testBit i
    · rfl
    · have := h i hsi
      rw [nand_testBit, hi] at this
      simp at this
  · intro h i hi
    rw [nand_testBit, testBit_all]
    have h8 := lt_of_testBit (show s < 256 by omega) hi
    have h1 := hlt i h8 hi
    cases hti : t.testBit i
    · simp [h1]
    · rw [h i hti] at hi; cases hi
theorem all_sub {m t : Nat} (hm : m ≤ 8) (ht : t < bit m) : bit m - 1 - t = nand (bit m - 1) t := by
  have hb := bit_le m hm
  have : ∀ m : Fin 9, ∀ t : Fin 256, t.val < bit m.val → bit m.val - 1 - t.val = nand (bit m.val - 1) t.val := by decide +kernel
  exact this ⟨m, by omega⟩ ⟨t, by omega⟩ ht
theorem nand_or (a b c : Nat) : nand a (b ||| c) = nand a b &&& nand a c := by
  apply Nat.eq_of_testBit_eq
  intro i
  rw [nand_testBit, Nat.testBit_or, Nat.testBit_and, nand_testBit, nand_testBit]
  cases a.testBit i <;> cases b.testBit i <;> cases c.testBit i <;> rfl

set_option maxHeartbeats 1000000 in
theorem c_refHull {B : Nat} {W : World} (u : Later B W) (m s : Nat) (l : List Int) (a : Option Addr) (cap : Nat) (h : IntsAt B W a l) (hlen : l.length ≤ 4611686018427387904) (hf : isFam m l) (hs : s < bit m) :
    Calls Try.prog 48 #[.int .i64 m, .slice a l.length cap, .int .i64 s] u.val (Ret B W (.int .i64 (hullOf m l s))) := by
  have HI := Lib.hid h; clear h
  have hn8 := hf.2.1
  have HFam := Lib.hid hf; clear hf
  have hb := bit_le m (by omega)
  have HALL : Hid (all (m : Int) = ((bit m - 1 : Nat) : Int)) := Lib.hid (by rw [all_nat])
  have HA : Hid (∀ u : Later B W, Calls Try.prog 59 #[.int .i64 m] u.val (Ret B W (.int .i64 ((bit m - 1 : Nat) : Int)))) := fun u => by have := c_all u m (by omega) hn8; rwa [HALL.out] at this
  have hb1 : ((bit m - 1 : Nat) : Int) ≤ 255 := by omega
  go_enter Try.func48, Try.ntmps48
  go_wp2_with (go_at_call 59; refine (HA.out _).mono ?_; rintro e _ ⟨rfl, u1, rfl⟩)
  go_loopw [7, 8] (fun o i wr => ∃ (k : Nat) (u : Later B W), k ≤ l.length ∧ i = .int .i64 k ∧ wr = u.val ∧ o = .int .i64 (nand (bit m - 1) (orTo l s k) : Nat)) (fun _ i _ => l.length - (intOf i).toNat)
  case atStart => exact ⟨0, u1, by omega, rfl, rfl, by simp [orTo, nand]⟩
  case round =>
    obtain ⟨k, u, hk, rfl, rfl, rfl⟩ := hrel
    have ho := nand_lt (bit m - 1) (orTo l s k) 8 (by show bit m - 1 < 256; omega)
    by_cases hlt : k < l.length
    · obtain ⟨t, ht, ht256, hta, _⟩ := fam_nat HFam.out hlt
      have htb : t < bit m := by have := HALL.out; omega
      obtain ⟨b, off, rfl, hbB, hcell⟩ := HI.out.at hlt
      have c0 : ∀ u : Later B W, u.val.cell? ⟨b, off + k, none⟩ = some (.int .i64 t) := fun u => by rw [← ht]; exact hcell u k hlt
      have HS := Lib.hid (orTo_step (s := s) ht)
      clear ht hcell hta
      have hsub : ((bit m - 1 : Nat) : Int) - (t : Int) = ((bit m - 1 - t : Nat) : Int) := by omega
      have hx : bit m - 1 - t < 256 := by omega
      have hy : ((bit m - 1 - t : Nat) : Int) ≤ 255 := by omega
      have HX : Hid (bit m - 1 - t = nand (bit m - 1) t) := Lib.hid (all_sub (by omega) htb)
      have HY := Lib.hid (within_all (by omega) hs htb)
      have HW := Lib.hid (fun u : Later B W => c_within u s (bit m - 1 - t) (by omega) (by omega))
      have HSub := Lib.hid hsub; clear hsub
      have h2 := i64_and (nand (bit m - 1) (orTo l s k)) (bit m - 1 - t) (by omega) (by omega)
      go_wp2
      refine wp_region_later u (by kernel_rfl) (by kernel_rfl) (fun _ => ?_)
      repeat (first | go_big_quiet_step (((go_at_call 59; exact HA.out _))) | (refine wpQuiet_step (fun K hK => ?_); go_simp; refine ⟨_, fun _ => rfl, ?_⟩; refine hK _ ?_; clear hK K))
      refine wpQuiet_nil ?_
      intro u
      rw [HSub.out]
      by_cases hz : t &&& s = 0
      · have HW2 := Lib.hid (fun u => dcall_t (HW.out u) (HY.out.2 hz))
        have HZ := Lib.hid hz; clear hz
        go_wp2_with (go_at_call 60; refine (HW2.out _).mono ?_; rintro e _ ⟨rfl, u1, rfl⟩)
        go_roundw
        case rel => exact ⟨k+1, _, by omega, by go_num, rfl, by rw [HS.out, if_pos HZ.out, nand_or, HX.out]⟩
        case measure => simp [intOf]; omega
      · have HW2 := Lib.hid (fun u => dcall_f (HW.out u) (fun h => hz (HY.out.1 h)))
        have HZ := Lib.hid hz; clear hz
        go_wp2_with (go_at_call 60; refine (HW2.out _).mono ?_; rintro e _ ⟨rfl, u1, rfl⟩)
        go_roundw
        case rel => exact ⟨k+1, _, by omega, by go_num, rfl, by rw [HS.out, if_neg HZ.out]⟩
        case measure => simp [intOf]; omega
    · have hke : Hid (k = l.length) := Lib.hid (by omega)
      go_wp2
      go_ret
      exact Ret.mk u (vint (by rw [hke.out]; rfl))

end Go.Proofs.Ytcljgnmlpfddiaa
