
/-
  rotalaw.SetsSays, whatever it is handed: the cases joined.
-/
import Derived.Test.YtpfhgklajaigfaaDoorSsLaw
namespace Go.Proofs.YtpfhgklajaigfaaDoor
open Go.RowKit
set_option linter.unusedVariables false

theorem law_setsSays {B : Nat} {W : World} (u : Later B W) (n s : Int) (l : List Int) (a : Option Addr) (cap : Nat) (t : ByteArray) (h : IntsAt B W a l) (hlen : l.length ≤ 4611686018427387904) (ht : t.size ≤ 9223372036854775807) :
    Calls Tryd.prog 3 #[.int .i64 n, .int .i64 s, .slice a l.length cap, .string t] u.val (Ret B W (.bool true)) := by
  by_cases hs : isSet 8 s
  · obtain ⟨k, rfl⟩ := Int.eq_ofNat_of_zero_le hs.2.2.1
    have hk : k < 256 := by
      have h1 := hs.2.2.2
      rw [show (8 : Int) = ((8 : Nat) : Int) from rfl, all_nat] at h1
      have : bit 8 = 256 := rfl
      omega
    exact law_ss u n k l a cap t h hlen ht (strB (wrT k 8)) 0 true (fun v => c_write v k hk) (fun v => by have := c_isSet v 8 (k : Int); rwa [decide_eq_true hs] at this) (.inl ⟨rfl, rfl, fun v => by rw [wr_tx hk]; exact c_text v k hk⟩)
  · exact law_ss u n s l a cap t h hlen ht ⟨#[]⟩ 1 false (fun v => c_write_no v s hs) (fun v => by have := c_isSet v 8 s; rwa [decide_eq_false hs] at this) (.inr ⟨rfl, rfl, rfl⟩)

end Go.Proofs.YtpfhgklajaigfaaDoor
