/-
  rotalaw.GreedySwaps returns true, whatever it is handed.
-/
import Derived.Test.YtcljgnmlpfddiaaGreedyLaw2
namespace Go.Proofs.Ytcljgnmlpfddiaa
open Go.RowKit
set_option linter.unusedVariables false

theorem least_of {P : Nat → Prop} : ∀ n y, y ≤ n → P y → ∃ d, d ≤ y ∧ P d ∧ ∀ z, z < d → ¬ P z := by
  intro n
  induction n with
  | zero => intro y hy h; exact ⟨y, Nat.le_refl _, h, fun z hz => by omega⟩
  | succ n ih =>
    intro y hy h
    by_cases g : ∃ z, z < y ∧ P z
    · obtain ⟨z, h1, h2⟩ := g
      obtain ⟨d, h3, h4, h5⟩ := ih z (by omega) h2
      exact ⟨d, by omega, h4, h5⟩
    · exact ⟨y, Nat.le_refl _, h, fun z hz hp => g ⟨z, hz, hp⟩⟩
theorem SwIs.ex (m : Nat) (L : List Nat) (A Bb x : Nat) : (∃ r, SwIs m L A Bb x r 0) ∨ SwIs m L A Bb x 0 5 := by
  by_cases h : ∃ y, y < bit m ∧ SwOk L A Bb x y
  · obtain ⟨y, h1, h2⟩ := h
    obtain ⟨d, h3, h4, h5⟩ := least_of y y (Nat.le_refl _) h2
    exact .inl ⟨d, .inl ⟨d, by omega, h4, h5, rfl, rfl⟩⟩
  · exact .inr (.inr ⟨fun z hz hp => h ⟨z, hz, hp⟩, rfl, rfl⟩)
theorem ints_get {L : List Nat} {y : Int} (h : y ∈ ints L) : ∃ b, b ∈ L ∧ y = (b : Int) := by
  unfold ints at h
  obtain ⟨b, h1, h2⟩ := List.mem_map.1 h
  exact ⟨b, h1, h2.symm⟩
theorem i_cases (m Bb : Nat) (i : Int) : i < 0 ∨ (∃ k : Nat, i = k ∧ m ≤ k) ∨ (∃ k : Nat, i = k ∧ k < m ∧ Bb.testBit k = true) ∨ (∃ k : Nat, i = k ∧ k < m ∧ Bb.testBit k = false) := by
  by_cases h : i < 0
  · exact .inl h
  · obtain ⟨k, rfl⟩ := Int.eq_ofNat_of_zero_le (show 0 ≤ i by omega)
    by_cases h2 : m ≤ k
    · exact .inr (.inl ⟨k, rfl, h2⟩)
    · cases c : Bb.testBit k
      · exact .inr (.inr (.inr ⟨k, rfl, by omega, c⟩))
      · exact .inr (.inr (.inl ⟨k, rfl, by omega, c⟩))

theorem law_greedySwaps {B : Nat} {W : World} (u : Later B W) (n x y z i : Int) (l : List Int) (a : Option Addr) (cap : Nat) (h : IntsAt B W a l) (hlen : l.length ≤ 4611686018427387904) (hz : z < 9223372036854775808) :
    Calls Try.prog 12 #[.agg #[.int .i64 n, .slice a l.length cap], .int .i64 x, .int .i64 y, .int .i64 z, .int .i64 i] u.val (Ret B W (.bool true)) := by
  obtain ⟨e, he⟩ := MatIs.ex n l
  by_cases h0 : e = 0
  case neg => exact law_sw_a u n x y z i e l a cap h hlen he h0
  subst h0
  obtain ⟨hok, hex⟩ := he.zero
  obtain ⟨m, rfl⟩ := Int.eq_ofNat_of_zero_le hok.1.1
  have hm : m ≤ 8 := by have := hok.1.2.1; omega
  have hl := fam_ints hok.1
  obtain ⟨L, hL⟩ : ∃ L, L = toN l := ⟨_, rfl⟩
  rw [← hL] at hl
  subst hl
  have hTN := hL.symm
  have hf8 := hok.fam8
  rw [hTN] at hf8 hex
  by_cases hy : y ∈ ints L
  case neg => exact law_sw_b u m x y z i L a cap h hlen he hm hTN hy
  obtain ⟨Bb, hB, rfl⟩ := ints_get hy
  have hB8 := hf8.lt Bb hB
  by_cases hx : x ∈ ints L
  case neg =>
    rcases i_cases m Bb i with hi | ⟨k, rfl, hi⟩ | ⟨k, rfl, hi, hb⟩ | ⟨k, rfl, hi, hb⟩
    · exact law_sw_c1 u m Bb x z i L a cap h hlen he hm hTN hx hB hB8 hi
    · exact law_sw_c2 u m Bb x z k L a cap h hlen he hm hTN hx hB hB8 hi
    · exact law_sw_c3 u m Bb x z k L a cap h hlen he hm hTN hx hB hB8 hi hb
    · obtain ⟨F, hF⟩ := FundIs.ex L Bb k
      exact law_sw_c4 u m Bb x z k F L a cap h hlen he hm hTN hx hB hB8 hi hb hF
  obtain ⟨A, hA, rfl⟩ := ints_get hx
  have hA8 := hf8.lt A hA
  obtain ⟨w, hw⟩ := LadIs.ex hf8 hex hB _ A hA rfl
  by_cases hz0 : z < 0
  · rcases i_cases m Bb i with hi | ⟨k, rfl, hi⟩ | ⟨k, rfl, hi, hb⟩ | ⟨k, rfl, hi, hb⟩
    · exact law_sw_d11 u m A Bb z i L w a cap h hlen he hm hTN hA hB hA8 hB8 hw hz hz0 hi
    · exact law_sw_d12 u m A Bb z k L w a cap h hlen he hm hTN hA hB hA8 hB8 hw hz hz0 hi
    · exact law_sw_d13 u m A Bb z k L w a cap h hlen he hm hTN hA hB hA8 hB8 hw hz hz0 hi hb
    · obtain ⟨F, hF⟩ := FundIs.ex L Bb k
      exact law_sw_d14 u m A Bb z k F L w a cap h hlen he hm hTN hA hB hA8 hB8 hw hz hz0 hi hb hF
  obtain ⟨x, rfl⟩ := Int.eq_ofNat_of_zero_le (show 0 ≤ z by omega)
  by_cases hin : x ||| nand A Bb = nand A Bb
  case neg =>
    rcases i_cases m Bb i with hi | ⟨k, rfl, hi⟩ | ⟨k, rfl, hi, hb⟩ | ⟨k, rfl, hi, hb⟩
    · exact law_sw_d21 u m A Bb x i L w a cap h hlen he hm hTN hA hB hA8 hB8 hw hz hin hi
    · exact law_sw_d22 u m A Bb x k L w a cap h hlen he hm hTN hA hB hA8 hB8 hw hz hin hi
    · exact law_sw_d23 u m A Bb x k L w a cap h hlen he hm hTN hA hB hA8 hB8 hw hz hin hi hb
    · obtain ⟨F, hF⟩ := FundIs.ex L Bb k
      exact law_sw_d24 u m A Bb x k F L w a cap h hlen he hm hTN hA hB hA8 hB8 hw hz hin hi hb hF
  have hx8 : x < 256 := by
    have h1 : x ≤ x ||| nand A Bb := Nat.left_le_or
    have h2 : nand A Bb < 256 := nand_lt _ _ 8 hA8
    omega
  rcases SwIs.ex m L A Bb x with ⟨r, hs⟩ | hs
  · rcases i_cases m Bb i with hi | ⟨k, rfl, hi⟩ | ⟨k, rfl, hi, hb⟩ | ⟨k, rfl, hi, hb⟩
    · exact law_sw_d31 u m A Bb x r i L w a cap h hlen he hm hTN hA hB hA8 hB8 hw hx8 hin hs hi
    · exact law_sw_d32 u m A Bb x r k L w a cap h hlen he hm hTN hA hB hA8 hB8 hw hx8 hin hs hi
    · exact law_sw_d33 u m A Bb x r k L w a cap h hlen he hm hTN hA hB hA8 hB8 hw hx8 hin hs hi hb
    · obtain ⟨F, hF⟩ := FundIs.ex L Bb k
      exact law_sw_d34 u m A Bb x r k F L w a cap h hlen he hm hTN hA hB hA8 hB8 hw hx8 hin hs hi hb hF
  · rcases i_cases m Bb i with hi | ⟨k, rfl, hi⟩ | ⟨k, rfl, hi, hb⟩ | ⟨k, rfl, hi, hb⟩
    · exact law_sw_d41 u m A Bb x i L w a cap h hlen he hm hTN hA hB hA8 hB8 hw hx8 hin hs hi
    · exact law_sw_d42 u m A Bb x k L w a cap h hlen he hm hTN hA hB hA8 hB8 hw hx8 hin hs hi
    · exact law_sw_d43 u m A Bb x k L w a cap h hlen he hm hTN hA hB hA8 hB8 hw hx8 hin hs hi hb
    · obtain ⟨F, hF⟩ := FundIs.ex L Bb k
      exact law_sw_d44 u m A Bb x k F L w a cap h hlen he hm hTN hA hB hA8 hB8 hw hx8 hin hs hi hb hF

end Go.Proofs.Ytcljgnmlpfddiaa
