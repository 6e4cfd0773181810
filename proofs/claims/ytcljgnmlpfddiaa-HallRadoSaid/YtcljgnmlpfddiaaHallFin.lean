/-
  rotalaw.HallRado returns true, whatever it is handed: the cases joined.
-/
import Derived.Test.YtcljgnmlpfddiaaHallLaw2
namespace Go.Proofs.Ytcljgnmlpfddiaa
open Go.RowKit
set_option linter.unusedVariables false

theorem law_hallRado {B : Nat} {W : World} (u : Later B W) (n : Int) (l ls : List Int) (a : Option Addr) (cap : Nat) (b : Option Addr) (capb : Nat) (h : IntsAt B W a l) (hlen : l.length ≤ 4611686018427387904) (hb : IntsAt B W b ls) (hlb : ls.length ≤ 4611686018427387904) :
    Calls Try.prog 13 #[.agg #[.int .i64 n, .slice a l.length cap], .slice b ls.length capb] u.val (Ret B W (.bool true)) := by
  obtain ⟨e, he⟩ := MatIs.ex n l
  obtain ⟨e2, hLs⟩ := LisIs.ex n ls
  by_cases h0 : (if e = 0 then e2 else e) = 0
  case neg => exact law_hr_no u n l a cap ls b capb e e2 h hlen he hb hlb hLs h0
  by_cases h1 : e = 0
  case neg => rw [if_neg h1] at h0; exact absurd h0 h1
  rw [if_pos h1] at h0
  subst h0 h1
  obtain ⟨hok, h8⟩ := hLs.zero
  obtain ⟨m, rfl⟩ := Int.eq_ofNat_of_zero_le hok.1
  have hm : m ≤ 8 := by have := hok.2.1; omega
  have hbm := bit_le m hm
  have hall : all (m : Int) = (bit m : Int) - 1 := by rw [all_nat]; omega
  have hl : ints (toN ls) = ls := ints_toN (fun i hi => (hok.2.2 i hi).2.2.1)
  have hlen2 : (toN ls).length = ls.length := toN_len ls
  have hls : ∀ k, k < (toN ls).length → (toN ls).getD k 0 < bit m := fun k hk => by
    have h3 := hok.2.2 k (by omega)
    rw [toN_getD]
    have := h3.2.2.1
    have := h3.2.2.2
    omega
  obtain ⟨L, hL⟩ : ∃ L, L = toN ls := ⟨_, rfl⟩
  rw [← hL] at hl hlen2 hls
  subst hl
  obtain ⟨xs, er, hr⟩ := RadoIs.ex (rado m (gRef (toN l)) L 0)
  obtain ⟨x, eb, hB⟩ := BarIs.ex L.length (barC (toN l) L)
  exact law_hr_yes u m hm l a cap L b capb h hlen he hb (by omega) hls hLs xs er x eb hr hB

end Go.Proofs.Ytcljgnmlpfddiaa
